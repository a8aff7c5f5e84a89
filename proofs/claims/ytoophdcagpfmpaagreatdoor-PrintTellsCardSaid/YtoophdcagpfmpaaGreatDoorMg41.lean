/- loanwordref03.fn. loanwordref03.fields and children at whatever kind. -/
import Derived.Test.YtoophdcagpfmpaaGreatDoorMg39
import Derived.Test.YtoophdcagpfmpaaGreatDoorTreeM1
import Derived.Test.YtoophdcagpfmpaaGreatDoorTreeN1
namespace Go.Proofs.YtoophdcagpfmpaaGreatDoor
open Go.RowKit

theorem allB_part {l : List Nat} {i j : Nat} {c : Cls} (h1 : i ≤ j) (h2 : j ≤ l.length) : allB l i j c = ((l.drop i).take (j - i)).all c.ok := by
  rw [Bool.eq_iff_iff]
  unfold allB
  rw [List.all_eq_true, List.all_eq_true]
  constructor
  · intro h y hy
    obtain ⟨q, hq, rfl⟩ := List.getElem_of_mem hy
    rw [List.length_take, List.length_drop] at hq
    have := h (i + q) (by rw [List.mem_range'_1]; omega)
    rw [List.getElem_take, List.getElem_drop]
    rwa [List.getD_eq_getElem?_getD, List.getElem?_eq_getElem (by omega)] at this
  · intro h q hq
    rw [List.mem_range'_1] at hq
    apply h
    rw [List.mem_iff_getElem]
    refine ⟨q - i, by rw [List.length_take, List.length_drop]; omega, ?_⟩
    rw [List.getElem_take, List.getElem_drop, List.getD_eq_getElem?_getD, List.getElem?_eq_getElem (by omega)]
    simp [show i + (q - i) = q by omega]
theorem fnB_eq {l : List Nat} {N : Nat} (hN : N ≤ 8) (h : N + 2 ≤ l.length) :
    fnB (N : Int) l = (allB l 0 N (.kd [5]) && ((decide (l.length - 2 - N ≤ 8) && allB l N (l.length - 2) (.kd [7])) && (isTypeB (l.getD (l.length - 2) 0) && decide (l.getD (l.length - 1) 0 = 13)))) := by
  have hm : (max 0 (min (N : Int) 8)).toNat = N := by omega
  unfold fnB
  simp only [hm, if_pos h]
  rw [allB_part (Nat.zero_le _) (by omega), allB_part (by omega) (by omega)]
  unfold askedB
  have hl1 : (l.take N).length = N := by rw [List.length_take]; omega
  have hl2 : ((l.drop N).take (l.length - 2 - N)).length = l.length - 2 - N := by rw [List.length_take, List.length_drop]; omega
  rw [hl1, hl2]
  have d1 : decide ((0 : Int) ≤ (N : Int)) = true := by simp
  have d2 : decide ((N : Int) ≤ 16384) = true := by simp; omega
  have d3 : decide ((0 : Int) ≤ ((l.length - 2 - N : Nat) : Int)) = true := by simp
  have d4 : decide (((l.length - 2 - N : Nat) : Int) ≤ 8) = decide (l.length - 2 - N ≤ 8) := by rw [decide_eq_decide]; omega
  have hj : justB (l.drop (l.length - 2)) [.ty, .kd [13]] = (isTypeB (l.getD (l.length - 2) 0) && decide (l.getD (l.length - 1) 0 = 13)) := by
    unfold justB
    have e0 : (l.drop (l.length - 2)).length = 2 := by rw [List.length_drop]; omega
    have g0 : (l.drop (l.length - 2)).getD 0 0 = l.getD (l.length - 2) 0 := by simp [List.getD_eq_getElem?_getD]
    have g1 : (l.drop (l.length - 2)).getD 1 0 = l.getD (l.length - 1) 0 := by
      rw [List.getD_eq_getElem?_getD, List.getElem?_drop, show l.length - 2 + 1 = l.length - 1 by omega, List.getD_eq_getElem?_getD]
    rw [e0]
    simp only [List.length_cons, List.length_nil, show (List.range (0 + 1 + 1)) = [0, 1] from rfl, List.all_cons, List.all_nil, justF, g0, g1, Cls.ok, List.getD_cons_zero, List.getD_cons_succ, List.any_cons, List.any_nil, Bool.or_false, Bool.and_true]
    have : (13 == l.getD (l.length - 1) 0) = decide (l.getD (l.length - 1) 0 = 13) := by rw [Bool.eq_iff_iff]; simp; omega
    rw [this]; simp
  rw [d1, d2, d3, d4, hj]
  simp
theorem fnB_lt {l : List Nat} {N : Nat} (hN : N ≤ 8) (h : ¬ N + 2 ≤ l.length) : fnB (N : Int) l = false := by
  have hm : (max 0 (min (N : Int) 8)).toNat = N := by omega
  unfold fnB
  simp only [hm, if_neg h]

set_option maxRecDepth 100000 in
set_option maxHeartbeats 4000000 in
theorem cfn_any (k : Nat) (at_ : Int) (N : Nat) (hN : N ≤ 8) (s : ByteArray) (la : Option Addr) (ll lc : Nat) (a : Option Addr) (l : List Nat) (cap : Nat) (w : World) (hl : l.length ≤ 16384) (hb : ∀ y ∈ l, y < 256) (ha : KindsAt w a l) :
    Calls Tryz.prog 152 #[.agg #[.int .u8 k, .int .i64 at_, .int .i64 N, .string s, .slice la ll lc], .slice a l.length cap] w fun e w' => e = .returned (.bool (fnB N l)) ∧ KB F0 w w' := by
  obtain ⟨w0, rfl⟩ : ∃ w0, w0 = w := ⟨_, rfl⟩
  obtain ⟨r, hr⟩ : ∃ r, r = fnB (N : Int) l := ⟨_, rfl⟩
  rw [← hr]
  have HR := Lib.hid hr
  clear hr
  obtain ⟨L, hL⟩ : ∃ L, L = l.length := ⟨_, rfl⟩
  have HL := Lib.hid hL
  obtain ⟨B0, hB0⟩ : ∃ B0, B0 = (w0.alloc (.cells #[.int .u8 k, .int .i64 at_, .int .i64 N, .string s, .slice la ll lc] 44)) := ⟨_, rfl⟩
  have K : KB F0 w0 B0 := by subst hB0; exact (KB.refl _ _).alloc _
  have HB0 := Lib.hid hB0
  have hNi : (N : Int) ≤ 8 := by omega
  by_cases h1 : L < N + 2
  · have hr : Hid (r = false) := Lib.hid (by rw [HR.out]; exact fnB_lt hN (by omega))
    have d1 : decide ((L : Int) < (N : Int) + 2) = true := by simp; omega
    rw [← hL] at hl ⊢
    clear hb ha hL hB0
    go_enter Tryz.func152, Tryz.ntmps152
    go_wp2_with fail
    rw [← HB0.out]
    go_ret
    exact ⟨ret_eq (by rw [hr.out]; rfl), K⟩
  · have d1 : decide ((L : Int) < (N : Int) + 2) = false := by simp; omega
    by_cases h2 : 8 < L - 2 - N
    · have hr : Hid (r = false) := Lib.hid (by rw [HR.out, fnB_eq hN (by omega), decide_eq_false (by omega)]; simp)
      have d2 : decide ((8 : Int) < (L : Int) - 1 - 1 - (N : Int)) = true := by simp; omega
      have w1 : IntKind.i64.wrap ((L : Int) - 1) = (L : Int) - 1 := w64 (by omega) (by omega)
      have g1 : (8 : Int) < (L : Int) - 1 - 1 - (N : Int) := by omega
      rw [← hL] at hl ⊢
      clear hb ha hL hB0
      go_enter Tryz.func152, Tryz.ntmps152
      go_wp2_with fail
      rw [← HB0.out]
      go_ret
      exact ⟨ret_eq (by rw [hr.out]; rfl), K⟩
    · obtain ⟨m, hm⟩ : ∃ m, m = L - 2 := ⟨_, rfl⟩
      have hLm : L = m + 2 := by omega
      obtain ⟨ab, ao, rfl, _⟩ := ha 0 (by omega)
      have hr : Hid (r = (allB l 0 N (.kd [5]) && (allB l N m (.kd [7]) && (isTypeB (l.getD m 0) && decide (l.getD (m + 1) 0 = 13))))) := Lib.hid (by
        rw [HR.out, fnB_eq hN (by omega), decide_eq_true (by omega), Bool.true_and, ← hL, ← hm, show L - 1 = m + 1 by omega])
      have hA := fun W (hk : KB F0 w0 W) => (show Calls Tryz.prog 149 #[.slice (some ⟨ab, ao, none⟩) l.length cap, .int .i64 0, .int .i64 N, .int .i64 105] W (fun e w' => e = .returned (.bool (allB l 0 N (.kd [5]))) ∧ W = w') from call_any _ l cap 0 N (.kd [5]) (by decide : _ < 256) W (by omega) (by omega) (by omega) hb (ha.kbF hk))
      have hBc := fun W (hk : KB F0 w0 W) => (show Calls Tryz.prog 149 #[.slice (some ⟨ab, ao, none⟩) l.length cap, .int .i64 N, .int .i64 m, .int .i64 107] W (fun e w' => e = .returned (.bool (allB l N m (.kd [7]))) ∧ W = w') from call_any _ l cap N m (.kd [7]) (by decide : _ < 256) W (by omega) (by omega) (by omega) hb (ha.kbF hk))
      obtain ⟨b1, o1, e1, hc1⟩ := (ha.kbF K) m (by omega)
      obtain ⟨b2, o2, e2, hc2⟩ := (ha.kbF K) (m + 1) (by omega)
      simp only [Option.some.injEq, Addr.mk.injEq, and_true] at e1 e2
      obtain ⟨rfl, rfl⟩ := e1
      obtain ⟨rfl, rfl⟩ := e2
      have hT := fun w => cisType_any (l.getD m 0) w
      have t13 : (((l.getD (m + 1) 0 : Nat) : Int) == 13) = decide (l.getD (m + 1) 0 = 13) := deq1 rfl
      generalize allB l 0 N (.kd [5]) = bA at hA hr
      generalize allB l N m (.kd [7]) = bB at hBc hr
      generalize isTypeB (l.getD m 0) = bC at hT hr
      generalize decide (l.getD (m + 1) 0 = 13) = bD at t13 hr
      generalize l.getD m 0 = y1 at hc1 hT
      generalize l.getD (m + 1) 0 = y2 at hc2 t13
      rw [← hL] at hl hA hBc ⊢
      have HA := Lib.hid hA
      have HBc := Lib.hid hBc
      have HT := Lib.hid hT
      have w1 : IntKind.i64.wrap ((L : Int) - 1) = (m : Int) + 1 := by rw [w64 (by omega) (by omega)]; omega
      have w2 : IntKind.i64.wrap ((m : Int) + 1 - 1) = (m : Int) := by rw [w64 (by omega) (by omega)]; omega
      have w3 : (m : Int) + 1 - 1 = (m : Int) := by omega
      have g1 : (L : Int) - 1 = (m : Int) + 1 := by omega
      have d2 : decide ((8 : Int) < (m : Int) - (N : Int)) = false := by simp; omega
      have g2 : (m : Int) < (L : Int) := by omega
      have g3 : (m : Int) + 1 < (L : Int) := by omega
      have g4 : (m : Int) ≤ 16384 := by omega
      have g5 : m < L := by omega
      have g6 : m + 1 < L := by omega
      have g7 : (0 : Int) ≤ (m : Int) + 1 := by omega
      have g8 : ((m : Int) + 1).toNat = m + 1 := by omega
      clear hb ha hL hB0 hm hLm hA hBc hT h1 h2
      cases bA
      · go_enter Tryz.func152, Tryz.ntmps152
        go_wp2_with fail
        rw [← HB0.out]
        refine (ckind_any 5 (by decide) _).mono ?_
        rintro e _ ⟨rfl, rfl⟩
        go_wp2_with fail
        refine (HA.out _ K).mono ?_
        rintro e _ ⟨rfl, rfl⟩
        go_wp2_with fail
        go_ret
        exact ⟨ret_eq (by rw [hr.out]; rfl), K⟩
      · cases bB
        · go_enter Tryz.func152, Tryz.ntmps152
          go_wp2_with fail
          rw [← HB0.out]
          refine (ckind_any 5 (by decide) _).mono ?_
          rintro e _ ⟨rfl, rfl⟩
          go_wp2_with fail
          refine (HA.out _ K).mono ?_
          rintro e _ ⟨rfl, rfl⟩
          go_wp2_with fail
          refine (ckind_any 7 (by decide) _).mono ?_
          rintro e _ ⟨rfl, rfl⟩
          go_wp2_with fail
          refine (HBc.out _ K).mono ?_
          rintro e _ ⟨rfl, rfl⟩
          go_wp2_with fail
          go_ret
          exact ⟨ret_eq (by rw [hr.out]; rfl), K⟩
        · cases bC
          · go_enter Tryz.func152, Tryz.ntmps152
            go_wp2_with fail
            rw [← HB0.out]
            refine (ckind_any 5 (by decide) _).mono ?_
            rintro e _ ⟨rfl, rfl⟩
            go_wp2_with fail
            refine (HA.out _ K).mono ?_
            rintro e _ ⟨rfl, rfl⟩
            go_wp2_with fail
            refine (ckind_any 7 (by decide) _).mono ?_
            rintro e _ ⟨rfl, rfl⟩
            go_wp2_with fail
            refine (HBc.out _ K).mono ?_
            rintro e _ ⟨rfl, rfl⟩
            go_wp2_with fail
            refine (HT.out _).mono ?_
            rintro e _ ⟨rfl, rfl⟩
            go_wp2_with fail
            go_ret
            exact ⟨ret_eq (by rw [hr.out]; rfl), K⟩
          · cases bD
            · go_enter Tryz.func152, Tryz.ntmps152
              go_wp2_with fail
              rw [← HB0.out]
              refine (ckind_any 5 (by decide) _).mono ?_
              rintro e _ ⟨rfl, rfl⟩
              go_wp2_with fail
              refine (HA.out _ K).mono ?_
              rintro e _ ⟨rfl, rfl⟩
              go_wp2_with fail
              refine (ckind_any 7 (by decide) _).mono ?_
              rintro e _ ⟨rfl, rfl⟩
              go_wp2_with fail
              refine (HBc.out _ K).mono ?_
              rintro e _ ⟨rfl, rfl⟩
              go_wp2_with fail
              refine (HT.out _).mono ?_
              rintro e _ ⟨rfl, rfl⟩
              go_wp2_with fail
              go_ret
              exact ⟨ret_eq (by rw [hr.out]; rfl), K⟩
            · go_enter Tryz.func152, Tryz.ntmps152
              go_wp2_with fail
              rw [← HB0.out]
              refine (ckind_any 5 (by decide) _).mono ?_
              rintro e _ ⟨rfl, rfl⟩
              go_wp2_with fail
              refine (HA.out _ K).mono ?_
              rintro e _ ⟨rfl, rfl⟩
              go_wp2_with fail
              refine (ckind_any 7 (by decide) _).mono ?_
              rintro e _ ⟨rfl, rfl⟩
              go_wp2_with fail
              refine (HBc.out _ K).mono ?_
              rintro e _ ⟨rfl, rfl⟩
              go_wp2_with fail
              refine (HT.out _).mono ?_
              rintro e _ ⟨rfl, rfl⟩
              go_wp2_with fail
              go_ret
              exact ⟨ret_eq (by rw [hr.out]; rfl), K⟩
end Go.Proofs.YtoophdcagpfmpaaGreatDoor

namespace Go.Proofs.YtoophdcagpfmpaaGreatDoor
open Go.RowKit

theorem fields_any (k : Nat) (hk : k < 256) (at_ n : Int) (s : ByteArray) (la : Option Addr) (ll lc : Nat) (w : World) (hs : s.size ≤ 9223372036854775807) (hn2 : n ≤ 9223372036854775807) :
    Calls Tryz.prog 115 #[.agg #[.int .u8 k, .int .i64 at_, .int .i64 n, .string s, .slice la ll lc]] w fun e w' => e = .returned (.bool (fieldsB k at_ n s)) ∧ KB F0 w w' := by
  by_cases h38 : 38 ≤ k
  · exact fields_38 at_ n s la ll lc w k h38 hk hs hn2
  · obtain rfl | rfl | rfl | rfl | rfl | rfl | rfl | rfl | rfl | rfl | rfl | rfl | rfl | rfl | rfl | rfl | rfl | rfl | rfl | rfl | rfl | rfl | rfl | rfl | rfl | rfl | rfl | rfl | rfl | rfl | rfl | rfl | rfl | rfl | rfl | rfl | rfl | rfl : k = 0 ∨ k = 1 ∨ k = 2 ∨ k = 3 ∨ k = 4 ∨ k = 5 ∨ k = 6 ∨ k = 7 ∨ k = 8 ∨ k = 9 ∨ k = 10 ∨ k = 11 ∨ k = 12 ∨ k = 13 ∨ k = 14 ∨ k = 15 ∨ k = 16 ∨ k = 17 ∨ k = 18 ∨ k = 19 ∨ k = 20 ∨ k = 21 ∨ k = 22 ∨ k = 23 ∨ k = 24 ∨ k = 25 ∨ k = 26 ∨ k = 27 ∨ k = 28 ∨ k = 29 ∨ k = 30 ∨ k = 31 ∨ k = 32 ∨ k = 33 ∨ k = 34 ∨ k = 35 ∨ k = 36 ∨ k = 37 := by omega
    · exact fields_0 at_ n s la ll lc w hs hn2
    · exact fields_g1 at_ n s la ll lc w hs hn2 1 1 (by decide)
    · exact fields_g2 at_ n s la ll lc w hs hn2 2 2 (by decide)
    · exact fields_g3 at_ n s la ll lc w hs hn2 3 3 (by decide)
    · exact fields_g4 at_ n s la ll lc w hs hn2 4 4 (by decide)
    · exact fields_g3 at_ n s la ll lc w hs hn2 5 5 (by decide)
    · exact fields_g3 at_ n s la ll lc w hs hn2 6 6 (by decide)
    · exact fields_g3 at_ n s la ll lc w hs hn2 7 7 (by decide)
    · exact fields_g1 at_ n s la ll lc w hs hn2 8 8 (by decide)
    · exact fields_g1 at_ n s la ll lc w hs hn2 9 9 (by decide)
    · exact fields_g1 at_ n s la ll lc w hs hn2 10 10 (by decide)
    · exact fields_g11 at_ n s la ll lc w hs hn2 11 11 (by decide)
    · exact fields_g2 at_ n s la ll lc w hs hn2 12 12 (by decide)
    · exact fields_g1 at_ n s la ll lc w hs hn2 13 13 (by decide)
    · exact fields_g14 at_ n s la ll lc w hs hn2 14 14 (by decide)
    · exact fields_g1 at_ n s la ll lc w hs hn2 15 15 (by decide)
    · exact fields_g25 at_ n s la ll lc w hs hn2 16 16 (by decide)
    · exact fields_g1 at_ n s la ll lc w hs hn2 17 17 (by decide)
    · exact fields_g1 at_ n s la ll lc w hs hn2 18 18 (by decide)
    · exact fields_g19 at_ n s la ll lc w hs hn2 19 19 (by decide)
    · exact fields_g19 at_ n s la ll lc w hs hn2 20 20 (by decide)
    · exact fields_g19 at_ n s la ll lc w hs hn2 21 21 (by decide)
    · exact fields_g19 at_ n s la ll lc w hs hn2 22 22 (by decide)
    · exact fields_g19 at_ n s la ll lc w hs hn2 23 23 (by decide)
    · exact fields_g24 at_ n s la ll lc w hs hn2 24 24 (by decide)
    · exact fields_g25 at_ n s la ll lc w hs hn2 25 25 (by decide)
    · exact fields_g3 at_ n s la ll lc w hs hn2 26 26 (by decide)
    · exact fields_g3 at_ n s la ll lc w hs hn2 27 27 (by decide)
    · exact fields_g19 at_ n s la ll lc w hs hn2 28 28 (by decide)
    · exact fields_g25 at_ n s la ll lc w hs hn2 29 29 (by decide)
    · exact fields_g19 at_ n s la ll lc w hs hn2 30 30 (by decide)
    · exact fields_g19 at_ n s la ll lc w hs hn2 31 31 (by decide)
    · exact fields_g32 at_ n s la ll lc w hs hn2 32 32 (by decide)
    · exact fields_g3 at_ n s la ll lc w hs hn2 33 33 (by decide)
    · exact fields_g2 at_ n s la ll lc w hs hn2 34 34 (by decide)
    · exact fields_g3 at_ n s la ll lc w hs hn2 35 35 (by decide)
    · exact fields_g36 at_ n s la ll lc w hs hn2 36 36 (by decide)
    · exact fields_g36 at_ n s la ll lc w hs hn2 37 37 (by decide)

set_option maxRecDepth 100000 in
set_option maxHeartbeats 2000000 in
theorem ch_1 (at_ n : Int) (s : ByteArray) (la : Option Addr) (ll lc : Nat) (a : Option Addr) (l : List Nat) (cap : Nat) (w : World) (hl : l.length ≤ 16384) (_hb : ∀ y ∈ l, y < 256) (ha : KindsAt w a l) :
    Calls Tryz.prog 116 #[.agg #[.int .u8 1, .int .i64 at_, .int .i64 n, .string s, .slice la ll lc], .slice a l.length cap] w fun e w' => e = .returned (.bool ((askR 1 n s l).1)) ∧ KB F0 w w' := by
  obtain ⟨w0, rfl⟩ : ∃ w0, w0 = w := ⟨_, rfl⟩
  obtain ⟨r, hr⟩ : ∃ r, r = (askR 1 n s l).1 := ⟨_, rfl⟩
  rw [← hr]
  have Hr : Hid (r = l.all (Cls.kd [2, 4]).ok) := Lib.hid (by
    rw [hr]
    show (decide ((0 : Int) ≤ l.length) && decide ((l.length : Int) ≤ 16384) && l.all (Cls.kd [2, 4]).ok) = _
    rw [decide_eq_true (by omega), decide_eq_true (by omega)]; simp)
  obtain ⟨B0, hB0⟩ : ∃ B0, B0 = (w0.alloc (.cells #[.int .u8 1, .int .i64 at_, .int .i64 n, .string s, .slice la ll lc] 44)) := ⟨_, rfl⟩
  have K : KB F0 w0 B0 := by subst hB0; exact (KB.refl _ _).alloc _
  have HB0 := Lib.hid hB0
  have Ha := Lib.hid (ha.kbF K)
  obtain ⟨L, hL⟩ : ∃ L, L = l.length := ⟨_, rfl⟩
  rw [← hL] at hl ⊢
  have HL := Lib.hid hL
  clear hr hB0 ha _hb hL
  go_enter Tryz.func116, Tryz.ntmps116
  go_wp2_with fail
  rw [← HB0.out]
  go_loop [5] (fun i => ∃ k : Nat, k ≤ L ∧ i = .int .i64 k ∧ Hid ((l.take k).all (Cls.kd [2, 4]).ok = true)) (fun i => L - (intOf i).toNat)
  case atStart => exact ⟨0, by omega, rfl, rfl⟩
  case round =>
    obtain ⟨k, hk, rfl, hj⟩ := hrel
    by_cases hlt : k < L
    · obtain ⟨bb, off, rfl, hc⟩ := Ha.out k (by rw [← HL.out]; exact hlt)
      have hs := Lib.hid (all_take_succ (p := (Cls.kd [2, 4]).ok) (l := l) (k := k) (by rw [← HL.out]; exact hlt))
      have hmem := Lib.hid (getD_mem (l := l) (k := k) (by rw [← HL.out]; exact hlt))
      generalize l.getD k 0 = y at hc hs hmem
      have hokv : Hid ((Cls.kd [2, 4]).ok y = (decide (y = 2) || decide (y = 4))) := Lib.hid (by
        simp only [Cls.ok, List.any_cons, List.any_nil, Bool.or_false]
        rw [Bool.eq_iff_iff]; simp; omega)
      have u2 := dne1 (k := 2) (c := y) (m := 2) rfl
      have u4 := dne1 (k := 4) (c := y) (m := 4) rfl
      have hyes : Hid ((decide (y = 2) || decide (y = 4)) = true → (l.take (k + 1)).all (Cls.kd [2, 4]).ok = true) := Lib.hid (fun h => by rw [hs.out, hj.out, hokv.out, h]; rfl)
      have hno : Hid ((decide (y = 2) || decide (y = 4)) = false → r = false) := Lib.hid (fun h => by rw [Hr.out, List.all_eq_false]; exact ⟨y, hmem.out, by rw [hokv.out, h]; exact Bool.false_ne_true⟩)
      clear hs hmem hokv hj
      generalize decide (y = 2) = b2 at u2 hyes hno
      generalize decide (y = 4) = b4 at u4 hyes hno
      cases b2
      · cases b4
        · have hr := Lib.hid (hno.out rfl)
          go_wp2
          go_ret
          exact ⟨ret_eq (by rw [hr.out]; rfl), K⟩
        · have hj := Lib.hid (hyes.out rfl)
          go_wp2
          go_round
          case rel => exact ⟨k + 1, by omega, by go_num, hj⟩
          case measure => simp [intOf]; omega
      · have hj := Lib.hid (hyes.out rfl)
        go_wp2
        go_round
        case rel => exact ⟨k + 1, by omega, by go_num, hj⟩
        case measure => simp [intOf]; omega
    · obtain rfl : L = k := by omega
      have hr : Hid (r = true) := Lib.hid (by have := hj.out; rw [List.take_of_length_le (by rw [← HL.out]; exact Nat.le_refl _)] at this; rw [Hr.out, this])
      go_wp2
      go_ret
      exact ⟨ret_eq (by rw [hr.out]; rfl), K⟩
set_option maxRecDepth 100000 in
set_option maxHeartbeats 2000000 in
theorem ch_4 (at_ n : Int) (s : ByteArray) (la : Option Addr) (ll lc : Nat) (a : Option Addr) (l : List Nat) (cap : Nat) (w : World) (hl : l.length ≤ 16384) (hb : ∀ y ∈ l, y < 256) (ha : KindsAt w a l) (hn : 0 ≤ n) (_hn8 : n ≤ 8) :
    Calls Tryz.prog 116 #[.agg #[.int .u8 4, .int .i64 at_, .int .i64 n, .string s, .slice la ll lc], .slice a l.length cap] w fun e w' => e = .returned (.bool ((askR 4 n s l).1)) ∧ KB F0 w w' := by
  obtain ⟨N, rfl⟩ := Int.eq_ofNat_of_zero_le hn
  have HF := Lib.hid (fun W (hk : KB F0 w W) => (show Calls Tryz.prog 152 #[.agg #[.int .u8 4, .int .i64 at_, .int .i64 N, .string s, .slice la ll lc], .slice a l.length cap] W (fun e w' => e = .returned (.bool (fnB N l)) ∧ KB F0 W w') from cfn_any 4 at_ N (by omega) s la ll lc a l cap W hl hb (ha.kbF hk)))
  have Hr : Hid ((askR 4 (N : Int) s l).1 = fnB N l) := Lib.hid rfl
  generalize fnB (N : Int) l = b0 at HF Hr
  generalize (askR 4 (N : Int) s l).1 = ok at Hr ⊢
  clear ha hb
  go_enter Tryz.func116, Tryz.ntmps116
  go_wp2_with fail
  refine (HF.out _ (by repeat (first | exact KB.refl _ _ | refine KB.alloc ?_ _))).mono ?_
  rintro e w' ⟨rfl, hk⟩
  go_wp2
  go_ret
  exact ⟨ret_eq (by rw [Hr.out]; rfl), KB.trans (by repeat (first | exact KB.refl _ _ | refine KB.alloc ?_ _)) hk⟩
def chB (k : Nat) (n : Int) (s : ByteArray) (l : List Nat) : Bool := if k = 0 ∨ 38 ≤ k then len0B l else (askR k n s l).1
theorem children_any (k : Nat) (at_ n : Int) (s : ByteArray) (la : Option Addr) (ll lc : Nat) (a : Option Addr) (l : List Nat) (cap : Nat) (w : World) (hl : l.length ≤ 16384) (hb : ∀ y ∈ l, y < 256) (ha : KindsAt w a l) (h4 : k = 4 → 0 ≤ n ∧ n ≤ 8) (h16 : k = 16 → n = 0 ∨ n = 1) :
    Calls Tryz.prog 116 #[.agg #[.int .u8 k, .int .i64 at_, .int .i64 n, .string s, .slice la ll lc], .slice a l.length cap] w fun e w' => e = .returned (.bool (chB k n s l)) ∧ KB F0 w w' := by
  by_cases h38 : 38 ≤ k
  · have : chB k n s l = len0B l := by unfold chB; rw [if_pos (.inr h38)]
    rw [this]
    exact ch_38 at_ n s la ll lc a l cap w k h38 hl hb ha
  · by_cases h0 : k = 0
    · subst h0
      exact ch_g0 at_ n s la ll lc a l cap w hl hb ha 0 0 (by decide)
    · have : chB k n s l = (askR k n s l).1 := by unfold chB; rw [if_neg (by omega)]
      rw [this]
      clear this
      obtain rfl | rfl | rfl | rfl | rfl | rfl | rfl | rfl | rfl | rfl | rfl | rfl | rfl | rfl | rfl | rfl | rfl | rfl | rfl | rfl | rfl | rfl | rfl | rfl | rfl | rfl | rfl | rfl | rfl | rfl | rfl | rfl | rfl | rfl | rfl | rfl | rfl : k = 1 ∨ k = 2 ∨ k = 3 ∨ k = 4 ∨ k = 5 ∨ k = 6 ∨ k = 7 ∨ k = 8 ∨ k = 9 ∨ k = 10 ∨ k = 11 ∨ k = 12 ∨ k = 13 ∨ k = 14 ∨ k = 15 ∨ k = 16 ∨ k = 17 ∨ k = 18 ∨ k = 19 ∨ k = 20 ∨ k = 21 ∨ k = 22 ∨ k = 23 ∨ k = 24 ∨ k = 25 ∨ k = 26 ∨ k = 27 ∨ k = 28 ∨ k = 29 ∨ k = 30 ∨ k = 31 ∨ k = 32 ∨ k = 33 ∨ k = 34 ∨ k = 35 ∨ k = 36 ∨ k = 37 := by omega
      · exact ch_1 at_ n s la ll lc a l cap w hl hb ha
      · exact ch_2 at_ n s la ll lc a l cap w hl hb ha
      · exact ch_g3 at_ n s la ll lc a l cap w hl hb ha 3 3 (by decide)
      · exact ch_4 at_ n s la ll lc a l cap w hl hb ha (h4 rfl).1 (h4 rfl).2
      · exact ch_5 at_ n s la ll lc a l cap w hl hb ha
      · exact ch_g0 at_ n s la ll lc a l cap w hl hb ha 6 6 (by decide)
      · exact ch_g3 at_ n s la ll lc a l cap w hl hb ha 7 7 (by decide)
      · exact ch_g0 at_ n s la ll lc a l cap w hl hb ha 8 8 (by decide)
      · exact ch_g0 at_ n s la ll lc a l cap w hl hb ha 9 9 (by decide)
      · exact ch_g3 at_ n s la ll lc a l cap w hl hb ha 10 10 (by decide)
      · exact ch_g3 at_ n s la ll lc a l cap w hl hb ha 11 11 (by decide)
      · exact ch_g0 at_ n s la ll lc a l cap w hl hb ha 12 12 (by decide)
      · exact ch_13 at_ n s la ll lc a l cap w hl hb ha
      · by_cases e1 : n = 1
        · exact ch_14a at_ n s la ll lc a l cap w hl hb ha e1
        · by_cases e2 : n = 2
          · exact ch_14b at_ n s la ll lc a l cap w hl hb ha e2
          · exact ch_14c at_ n s la ll lc a l cap w hl hb ha e1 e2
      · exact ch_g15 at_ n s la ll lc a l cap w hl hb ha 15 15 (by decide)
      · rcases h16 rfl with e1 | e1
        · exact ch_16a at_ n s la ll lc a l cap w hl hb ha e1
        · exact ch_16b at_ n s la ll lc a l cap w hl hb ha e1
      · exact ch_g17 at_ n s la ll lc a l cap w hl hb ha 17 17 (by decide)
      · exact ch_g18 at_ n s la ll lc a l cap w hl hb ha 18 18 (by decide)
      · exact ch_g0 at_ n s la ll lc a l cap w hl hb ha 19 19 (by decide)
      · exact ch_g0 at_ n s la ll lc a l cap w hl hb ha 20 20 (by decide)
      · exact ch_g21 at_ n s la ll lc a l cap w hl hb ha 21 21 (by decide)
      · exact ch_g21 at_ n s la ll lc a l cap w hl hb ha 22 22 (by decide)
      · exact ch_g23 at_ n s la ll lc a l cap w hl hb ha 23 23 (by decide)
      · exact ch_g0 at_ n s la ll lc a l cap w hl hb ha 24 24 (by decide)
      · exact ch_g0 at_ n s la ll lc a l cap w hl hb ha 25 25 (by decide)
      · exact ch_g0 at_ n s la ll lc a l cap w hl hb ha 26 26 (by decide)
      · exact ch_g21 at_ n s la ll lc a l cap w hl hb ha 27 27 (by decide)
      · exact ch_g21 at_ n s la ll lc a l cap w hl hb ha 28 28 (by decide)
      · exact ch_g21 at_ n s la ll lc a l cap w hl hb ha 29 29 (by decide)
      · exact ch_g21 at_ n s la ll lc a l cap w hl hb ha 30 30 (by decide)
      · exact ch_g21 at_ n s la ll lc a l cap w hl hb ha 31 31 (by decide)
      · exact ch_g15 at_ n s la ll lc a l cap w hl hb ha 32 32 (by decide)
      · exact ch_33 at_ n s la ll lc a l cap w hl hb ha
      · exact ch_34 at_ n s la ll lc a l cap w hl hb ha
      · exact ch_g21 at_ n s la ll lc a l cap w hl hb ha 35 35 (by decide)
      · exact ch_g21 at_ n s la ll lc a l cap w hl hb ha 36 36 (by decide)
      · exact ch_g0 at_ n s la ll lc a l cap w hl hb ha 37 37 (by decide)
end Go.Proofs.YtoophdcagpfmpaaGreatDoor

/- loanwordref03.fn. -/
import Derived.Test.YtjefoojkgocinaaDoorTreeN
namespace Go.Proofs.YtjefoojkgocinaaDoor
open Go.RowKit

theorem allB_part {l : List Nat} {i j : Nat} {c : Cls} (h1 : i ≤ j) (h2 : j ≤ l.length) : allB l i j c = ((l.drop i).take (j - i)).all c.ok := by
  rw [Bool.eq_iff_iff]
  unfold allB
  rw [List.all_eq_true, List.all_eq_true]
  constructor
  · intro h y hy
    obtain ⟨q, hq, rfl⟩ := List.getElem_of_mem hy
    rw [List.length_take, List.length_drop] at hq
    have := h (i + q) (by rw [List.mem_range'_1]; omega)
    rw [List.getElem_take, List.getElem_drop]
    rwa [List.getD_eq_getElem?_getD, List.getElem?_eq_getElem (by omega)] at this
  · intro h q hq
    rw [List.mem_range'_1] at hq
    apply h
    rw [List.mem_iff_getElem]
    refine ⟨q - i, by rw [List.length_take, List.length_drop]; omega, ?_⟩
    rw [List.getElem_take, List.getElem_drop, List.getD_eq_getElem?_getD, List.getElem?_eq_getElem (by omega)]
    simp [show i + (q - i) = q by omega]
theorem fnB_eq {l : List Nat} {N : Nat} (hN : N ≤ 8) (h : N + 2 ≤ l.length) :
    fnB (N : Int) l = (allB l 0 N (.kd [5]) && ((decide (l.length - 2 - N ≤ 8) && allB l N (l.length - 2) (.kd [7])) && (isTypeB (l.getD (l.length - 2) 0) && decide (l.getD (l.length - 1) 0 = 13)))) := by
  have hm : (max 0 (min (N : Int) 8)).toNat = N := by omega
  unfold fnB
  simp only [hm, if_pos h]
  rw [allB_part (Nat.zero_le _) (by omega), allB_part (by omega) (by omega)]
  unfold askedB
  have hl1 : (l.take N).length = N := by rw [List.length_take]; omega
  have hl2 : ((l.drop N).take (l.length - 2 - N)).length = l.length - 2 - N := by rw [List.length_take, List.length_drop]; omega
  rw [hl1, hl2]
  have d1 : decide ((0 : Int) ≤ (N : Int)) = true := by simp
  have d2 : decide ((N : Int) ≤ 16384) = true := by simp; omega
  have d3 : decide ((0 : Int) ≤ ((l.length - 2 - N : Nat) : Int)) = true := by simp
  have d4 : decide (((l.length - 2 - N : Nat) : Int) ≤ 8) = decide (l.length - 2 - N ≤ 8) := by rw [decide_eq_decide]; omega
  have hj : justB (l.drop (l.length - 2)) [.ty, .kd [13]] = (isTypeB (l.getD (l.length - 2) 0) && decide (l.getD (l.length - 1) 0 = 13)) := by
    unfold justB
    have e0 : (l.drop (l.length - 2)).length = 2 := by rw [List.length_drop]; omega
    have g0 : (l.drop (l.length - 2)).getD 0 0 = l.getD (l.length - 2) 0 := by simp [List.getD_eq_getElem?_getD]
    have g1 : (l.drop (l.length - 2)).getD 1 0 = l.getD (l.length - 1) 0 := by
      rw [List.getD_eq_getElem?_getD, List.getElem?_drop, show l.length - 2 + 1 = l.length - 1 by omega, List.getD_eq_getElem?_getD]
    rw [e0]
    simp only [List.length_cons, List.length_nil, show (List.range (0 + 1 + 1)) = [0, 1] from rfl, List.all_cons, List.all_nil, justF, g0, g1, Cls.ok, List.getD_cons_zero, List.getD_cons_succ, List.any_cons, List.any_nil, Bool.or_false, Bool.and_true]
    have : (13 == l.getD (l.length - 1) 0) = decide (l.getD (l.length - 1) 0 = 13) := by rw [Bool.eq_iff_iff]; simp; omega
    rw [this]; simp
  rw [d1, d2, d3, d4, hj]
  simp
theorem fnB_lt {l : List Nat} {N : Nat} (hN : N ≤ 8) (h : ¬ N + 2 ≤ l.length) : fnB (N : Int) l = false := by
  have hm : (max 0 (min (N : Int) 8)).toNat = N := by omega
  unfold fnB
  simp only [hm, if_neg h]

set_option maxRecDepth 100000 in
set_option maxHeartbeats 4000000 in
theorem cfn_any (k : Nat) (at_ : Int) (N : Nat) (hN : N ≤ 8) (s : ByteArray) (la : Option Addr) (ll lc : Nat) (a : Option Addr) (l : List Nat) (cap : Nat) (w : World) (hl : l.length ≤ 16384) (hb : ∀ y ∈ l, y < 256) (ha : KindsAt w a l) :
    Calls Tryd.prog 76 #[.agg #[.int .u8 k, .int .i64 at_, .int .i64 N, .string s, .slice la ll lc], .slice a l.length cap] w fun e w' => e = .returned (.bool (fnB N l)) ∧ KB F0 w w' := by
  obtain ⟨w0, rfl⟩ : ∃ w0, w0 = w := ⟨_, rfl⟩
  obtain ⟨r, hr⟩ : ∃ r, r = fnB (N : Int) l := ⟨_, rfl⟩
  rw [← hr]
  have HR := Lib.hid hr
  clear hr
  obtain ⟨L, hL⟩ : ∃ L, L = l.length := ⟨_, rfl⟩
  have HL := Lib.hid hL
  obtain ⟨B0, hB0⟩ : ∃ B0, B0 = (w0.alloc (.cells #[.int .u8 k, .int .i64 at_, .int .i64 N, .string s, .slice la ll lc] 25)) := ⟨_, rfl⟩
  have K : KB F0 w0 B0 := by subst hB0; exact (KB.refl _ _).alloc _
  have HB0 := Lib.hid hB0
  have hNi : (N : Int) ≤ 8 := by omega
  by_cases h1 : L < N + 2
  · have hr : Hid (r = false) := Lib.hid (by rw [HR.out]; exact fnB_lt hN (by omega))
    have d1 : decide ((L : Int) < (N : Int) + 2) = true := by simp; omega
    rw [← hL] at hl ⊢
    clear hb ha hL hB0
    go_enter Tryd.func76, Tryd.ntmps76
    go_wp2_with fail
    rw [← HB0.out]
    go_ret
    exact ⟨ret_eq (by rw [hr.out]; rfl), K⟩
  · have d1 : decide ((L : Int) < (N : Int) + 2) = false := by simp; omega
    by_cases h2 : 8 < L - 2 - N
    · have hr : Hid (r = false) := Lib.hid (by rw [HR.out, fnB_eq hN (by omega), decide_eq_false (by omega)]; simp)
      have d2 : decide ((8 : Int) < (L : Int) - 1 - 1 - (N : Int)) = true := by simp; omega
      have w1 : IntKind.i64.wrap ((L : Int) - 1) = (L : Int) - 1 := w64 (by omega) (by omega)
      have g1 : (8 : Int) < (L : Int) - 1 - 1 - (N : Int) := by omega
      rw [← hL] at hl ⊢
      clear hb ha hL hB0
      go_enter Tryd.func76, Tryd.ntmps76
      go_wp2_with fail
      rw [← HB0.out]
      go_ret
      exact ⟨ret_eq (by rw [hr.out]; rfl), K⟩
    · obtain ⟨m, hm⟩ : ∃ m, m = L - 2 := ⟨_, rfl⟩
      have hLm : L = m + 2 := by omega
      obtain ⟨ab, ao, rfl, _⟩ := ha 0 (by omega)
      have hr : Hid (r = (allB l 0 N (.kd [5]) && (allB l N m (.kd [7]) && (isTypeB (l.getD m 0) && decide (l.getD (m + 1) 0 = 13))))) := Lib.hid (by
        rw [HR.out, fnB_eq hN (by omega), decide_eq_true (by omega), Bool.true_and, ← hL, ← hm, show L - 1 = m + 1 by omega])
      have hA := fun W (hk : KB F0 w0 W) => (show Calls Tryd.prog 73 #[.slice (some ⟨ab, ao, none⟩) l.length cap, .int .i64 0, .int .i64 N, .int .i64 105] W (fun e w' => e = .returned (.bool (allB l 0 N (.kd [5]))) ∧ W = w') from call_any _ l cap 0 N (.kd [5]) (by decide : _ < 256) W (by omega) (by omega) (by omega) hb (ha.kbF hk))
      have hBc := fun W (hk : KB F0 w0 W) => (show Calls Tryd.prog 73 #[.slice (some ⟨ab, ao, none⟩) l.length cap, .int .i64 N, .int .i64 m, .int .i64 107] W (fun e w' => e = .returned (.bool (allB l N m (.kd [7]))) ∧ W = w') from call_any _ l cap N m (.kd [7]) (by decide : _ < 256) W (by omega) (by omega) (by omega) hb (ha.kbF hk))
      obtain ⟨b1, o1, e1, hc1⟩ := (ha.kbF K) m (by omega)
      obtain ⟨b2, o2, e2, hc2⟩ := (ha.kbF K) (m + 1) (by omega)
      simp only [Option.some.injEq, Addr.mk.injEq, and_true] at e1 e2
      obtain ⟨rfl, rfl⟩ := e1
      obtain ⟨rfl, rfl⟩ := e2
      have hT := fun w => cisType_any (l.getD m 0) w
      have t13 : (((l.getD (m + 1) 0 : Nat) : Int) == 13) = decide (l.getD (m + 1) 0 = 13) := deq1 rfl
      generalize allB l 0 N (.kd [5]) = bA at hA hr
      generalize allB l N m (.kd [7]) = bB at hBc hr
      generalize isTypeB (l.getD m 0) = bC at hT hr
      generalize decide (l.getD (m + 1) 0 = 13) = bD at t13 hr
      generalize l.getD m 0 = y1 at hc1 hT
      generalize l.getD (m + 1) 0 = y2 at hc2 t13
      rw [← hL] at hl hA hBc ⊢
      have HA := Lib.hid hA
      have HBc := Lib.hid hBc
      have HT := Lib.hid hT
      have w1 : IntKind.i64.wrap ((L : Int) - 1) = (m : Int) + 1 := by rw [w64 (by omega) (by omega)]; omega
      have w2 : IntKind.i64.wrap ((m : Int) + 1 - 1) = (m : Int) := by rw [w64 (by omega) (by omega)]; omega
      have w3 : (m : Int) + 1 - 1 = (m : Int) := by omega
      have g1 : (L : Int) - 1 = (m : Int) + 1 := by omega
      have d2 : decide ((8 : Int) < (m : Int) - (N : Int)) = false := by simp; omega
      have g2 : (m : Int) < (L : Int) := by omega
      have g3 : (m : Int) + 1 < (L : Int) := by omega
      have g4 : (m : Int) ≤ 16384 := by omega
      have g5 : m < L := by omega
      have g6 : m + 1 < L := by omega
      have g7 : (0 : Int) ≤ (m : Int) + 1 := by omega
      have g8 : ((m : Int) + 1).toNat = m + 1 := by omega
      clear hb ha hL hB0 hm hLm hA hBc hT h1 h2
      cases bA
      · go_enter Tryd.func76, Tryd.ntmps76
        go_wp2_with fail
        rw [← HB0.out]
        refine (ckind_any 5 (by decide) _).mono ?_
        rintro e _ ⟨rfl, rfl⟩
        go_wp2_with fail
        refine (HA.out _ K).mono ?_
        rintro e _ ⟨rfl, rfl⟩
        go_wp2_with fail
        go_ret
        exact ⟨ret_eq (by rw [hr.out]; rfl), K⟩
      · cases bB
        · go_enter Tryd.func76, Tryd.ntmps76
          go_wp2_with fail
          rw [← HB0.out]
          refine (ckind_any 5 (by decide) _).mono ?_
          rintro e _ ⟨rfl, rfl⟩
          go_wp2_with fail
          refine (HA.out _ K).mono ?_
          rintro e _ ⟨rfl, rfl⟩
          go_wp2_with fail
          refine (ckind_any 7 (by decide) _).mono ?_
          rintro e _ ⟨rfl, rfl⟩
          go_wp2_with fail
          refine (HBc.out _ K).mono ?_
          rintro e _ ⟨rfl, rfl⟩
          go_wp2_with fail
          go_ret
          exact ⟨ret_eq (by rw [hr.out]; rfl), K⟩
        · cases bC
          · go_enter Tryd.func76, Tryd.ntmps76
            go_wp2_with fail
            rw [← HB0.out]
            refine (ckind_any 5 (by decide) _).mono ?_
            rintro e _ ⟨rfl, rfl⟩
            go_wp2_with fail
            refine (HA.out _ K).mono ?_
            rintro e _ ⟨rfl, rfl⟩
            go_wp2_with fail
            refine (ckind_any 7 (by decide) _).mono ?_
            rintro e _ ⟨rfl, rfl⟩
            go_wp2_with fail
            refine (HBc.out _ K).mono ?_
            rintro e _ ⟨rfl, rfl⟩
            go_wp2_with fail
            refine (HT.out _).mono ?_
            rintro e _ ⟨rfl, rfl⟩
            go_wp2_with fail
            go_ret
            exact ⟨ret_eq (by rw [hr.out]; rfl), K⟩
          · cases bD
            · go_enter Tryd.func76, Tryd.ntmps76
              go_wp2_with fail
              rw [← HB0.out]
              refine (ckind_any 5 (by decide) _).mono ?_
              rintro e _ ⟨rfl, rfl⟩
              go_wp2_with fail
              refine (HA.out _ K).mono ?_
              rintro e _ ⟨rfl, rfl⟩
              go_wp2_with fail
              refine (ckind_any 7 (by decide) _).mono ?_
              rintro e _ ⟨rfl, rfl⟩
              go_wp2_with fail
              refine (HBc.out _ K).mono ?_
              rintro e _ ⟨rfl, rfl⟩
              go_wp2_with fail
              refine (HT.out _).mono ?_
              rintro e _ ⟨rfl, rfl⟩
              go_wp2_with fail
              go_ret
              exact ⟨ret_eq (by rw [hr.out]; rfl), K⟩
            · go_enter Tryd.func76, Tryd.ntmps76
              go_wp2_with fail
              rw [← HB0.out]
              refine (ckind_any 5 (by decide) _).mono ?_
              rintro e _ ⟨rfl, rfl⟩
              go_wp2_with fail
              refine (HA.out _ K).mono ?_
              rintro e _ ⟨rfl, rfl⟩
              go_wp2_with fail
              refine (ckind_any 7 (by decide) _).mono ?_
              rintro e _ ⟨rfl, rfl⟩
              go_wp2_with fail
              refine (HBc.out _ K).mono ?_
              rintro e _ ⟨rfl, rfl⟩
              go_wp2_with fail
              refine (HT.out _).mono ?_
              rintro e _ ⟨rfl, rfl⟩
              go_wp2_with fail
              go_ret
              exact ⟨ret_eq (by rw [hr.out]; rfl), K⟩
end Go.Proofs.YtjefoojkgocinaaDoor

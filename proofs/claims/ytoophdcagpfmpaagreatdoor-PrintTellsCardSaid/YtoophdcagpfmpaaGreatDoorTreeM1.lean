/- loanwordref03.fields at each kind of nodes. -/
import Derived.Test.YtoophdcagpfmpaaGreatDoorMg37
namespace Go.Proofs.YtoophdcagpfmpaaGreatDoor
open Go.RowKit
section
variable (at_ n : Int) (s : ByteArray) (la : Option Addr) (ll lc : Nat) (w : World)
set_option maxRecDepth 100000 in
set_option maxHeartbeats 40000000 in
theorem fields_g1 (hs : s.size ≤ 9223372036854775807) (hn2 : n ≤ 9223372036854775807) (k : Nat) (ki : Int) (hk : k = 1 ∧ ki = 1 ∨ k = 8 ∧ ki = 8 ∨ k = 9 ∧ ki = 9 ∨ k = 10 ∧ ki = 10 ∨ k = 13 ∧ ki = 13 ∨ k = 15 ∧ ki = 15 ∨ k = 17 ∧ ki = 17 ∨ k = 18 ∧ ki = 18) :
    Calls Tryz.prog 115 #[.agg #[.int .u8 ki, .int .i64 at_, .int .i64 n, .string s, .slice la ll lc]] w fun e w' => e = .returned (.bool (fieldsB k at_ n s)) ∧ KB F0 w w' := by
  obtain ⟨w0, rfl⟩ : ∃ w0, w0 = w := ⟨_, rfl⟩
  have Hr : Hid (fieldsB k at_ n s = (emptyB s && (n == 0) && decide (0 ≤ at_) && true && true)) := Lib.hid (by rcases hk with ⟨rfl, rfl⟩ | ⟨rfl, rfl⟩ | ⟨rfl, rfl⟩ | ⟨rfl, rfl⟩ | ⟨rfl, rfl⟩ | ⟨rfl, rfl⟩ | ⟨rfl, rfl⟩ | ⟨rfl, rfl⟩ <;> (show (emptyB s && (decide ((0 : Int) ≤ n) && decide (n ≤ (0 : Int))) && decide (0 ≤ at_) && true && true) = _; rw [eq00]))
  obtain ⟨B0, HB0, K, c0, c1, c2, c3, -⟩ := boxN w0 ki at_ n s la ll lc
  have tE : s.toList.isEmpty = emptyB s := rfl
  generalize emptyB s = bE at tE Hr
  obtain ⟨ba, hba⟩ : ∃ b, decide ((0 : Int) ≤ at_) = b := ⟨_, rfl⟩
  rw [hba] at Hr
  obtain ⟨q0, hq0⟩ : ∃ b, (n == 0) = b := ⟨_, rfl⟩
  rw [hq0] at Hr
  clear hs hn2
  rcases hk with ⟨rfl, rfl⟩ | ⟨rfl, rfl⟩ | ⟨rfl, rfl⟩ | ⟨rfl, rfl⟩ | ⟨rfl, rfl⟩ | ⟨rfl, rfl⟩ | ⟨rfl, rfl⟩ | ⟨rfl, rfl⟩
  all_goals
    rcases (show (q0 = false ∧ bE = false) ∨ (q0 = false ∧ bE = true ∧ ba = false) ∨ (q0 = false ∧ bE = true ∧ ba = true) ∨ (q0 = true ∧ bE = false) ∨ (q0 = true ∧ bE = true ∧ ba = false) ∨ (q0 = true ∧ bE = true ∧ ba = true) by cases q0 <;> cases bE <;> cases ba <;> simp) with ⟨rfl, rfl⟩ | ⟨rfl, rfl, rfl⟩ | ⟨rfl, rfl, rfl⟩ | ⟨rfl, rfl⟩ | ⟨rfl, rfl, rfl⟩ | ⟨rfl, rfl, rfl⟩
    all_goals
      go_enter Tryz.func115, Tryz.ntmps115
      go_wp2_with fail
      rw [← HB0.out]
      refine wp_region_rv 8 GQ (kindV []) (by kernel_rfl) (by kernel_rfl) GQ.trans GQ.refl (GQ.start _) (kindV_mono _) ?_
      simp only [List.take_succ_cons, List.take_zero, List.drop_succ_cons, List.drop_zero]
      iterate 8 (refine rv_det (by kernel_rfl) rfl (by intro w hG hH; obtain ⟨n, rfl⟩ := hG; go_simp; first | done | with_reducible rfl) ?_; simp only [Act.put, List.setIfInBounds_toArray, List.set_cons_zero, List.set_cons_succ])
      refine rv_nil (fun w hG hH => ?_)
      obtain ⟨n, rfl⟩ := hG
      clear hH
      go_wp2_with fail
      go_ret
      exact ⟨ret_eq (by rw [Hr.out]; rfl), K.drewN _⟩
set_option maxRecDepth 100000 in
set_option maxHeartbeats 40000000 in
theorem fields_g3 (hs : s.size ≤ 9223372036854775807) (hn2 : n ≤ 9223372036854775807) (k : Nat) (ki : Int) (hk : k = 3 ∧ ki = 3 ∨ k = 5 ∧ ki = 5 ∨ k = 6 ∧ ki = 6 ∨ k = 7 ∧ ki = 7 ∨ k = 26 ∧ ki = 26 ∨ k = 27 ∧ ki = 27 ∨ k = 33 ∧ ki = 33 ∨ k = 35 ∧ ki = 35) :
    Calls Tryz.prog 115 #[.agg #[.int .u8 ki, .int .i64 at_, .int .i64 n, .string s, .slice la ll lc]] w fun e w' => e = .returned (.bool (fieldsB k at_ n s)) ∧ KB F0 w w' := by
  obtain ⟨w0, rfl⟩ : ∃ w0, w0 = w := ⟨_, rfl⟩
  have Hr : Hid (fieldsB k at_ n s = (nameB s && (n == 0) && decide (0 ≤ at_) && true && true)) := Lib.hid (by rcases hk with ⟨rfl, rfl⟩ | ⟨rfl, rfl⟩ | ⟨rfl, rfl⟩ | ⟨rfl, rfl⟩ | ⟨rfl, rfl⟩ | ⟨rfl, rfl⟩ | ⟨rfl, rfl⟩ | ⟨rfl, rfl⟩ <;> (show (nameB s && (decide ((0 : Int) ≤ n) && decide (n ≤ (0 : Int))) && decide (0 ≤ at_) && true && true) = _; rw [eq00]))
  obtain ⟨B0, HB0, K, c0, c1, c2, c3, -⟩ := boxN w0 ki at_ n s la ll lc
  have HS := Lib.hid (fun W => cname_any s W hs)
  generalize nameB s = bN at HS Hr
  obtain ⟨ba, hba⟩ : ∃ b, decide ((0 : Int) ≤ at_) = b := ⟨_, rfl⟩
  rw [hba] at Hr
  obtain ⟨q0, hq0⟩ : ∃ b, (n == 0) = b := ⟨_, rfl⟩
  rw [hq0] at Hr
  clear hs hn2
  rcases hk with ⟨rfl, rfl⟩ | ⟨rfl, rfl⟩ | ⟨rfl, rfl⟩ | ⟨rfl, rfl⟩ | ⟨rfl, rfl⟩ | ⟨rfl, rfl⟩ | ⟨rfl, rfl⟩ | ⟨rfl, rfl⟩
  all_goals
    rcases (show (q0 = false ∧ bN = false) ∨ (q0 = false ∧ bN = true ∧ ba = false) ∨ (q0 = false ∧ bN = true ∧ ba = true) ∨ (q0 = true ∧ bN = false) ∨ (q0 = true ∧ bN = true ∧ ba = false) ∨ (q0 = true ∧ bN = true ∧ ba = true) by cases q0 <;> cases bN <;> cases ba <;> simp) with ⟨rfl, rfl⟩ | ⟨rfl, rfl, rfl⟩ | ⟨rfl, rfl, rfl⟩ | ⟨rfl, rfl⟩ | ⟨rfl, rfl, rfl⟩ | ⟨rfl, rfl, rfl⟩
    all_goals
      go_enter Tryz.func115, Tryz.ntmps115
      go_wp2_with fail
      rw [← HB0.out]
      refine wp_region_rv 8 GQ (kindV []) (by kernel_rfl) (by kernel_rfl) GQ.trans GQ.refl (GQ.start _) (kindV_mono _) ?_
      simp only [List.take_succ_cons, List.take_zero, List.drop_succ_cons, List.drop_zero]
      iterate 8 (refine rv_det (by kernel_rfl) rfl (by intro w hG hH; obtain ⟨n, rfl⟩ := hG; go_simp; first | done | with_reducible rfl) ?_; simp only [Act.put, List.setIfInBounds_toArray, List.set_cons_zero, List.set_cons_succ])
      refine rv_nil (fun w hG hH => ?_)
      obtain ⟨n, rfl⟩ := hG
      clear hH
      go_wp2_with fail
      refine (HS.out _).mono ?_
      rintro e _ ⟨rfl, rfl⟩
      go_wp2_with fail
      go_ret
      exact ⟨ret_eq (by rw [Hr.out]; rfl), K.drewN _⟩
set_option maxRecDepth 100000 in
set_option maxHeartbeats 40000000 in
theorem fields_g11 (hs : s.size ≤ 9223372036854775807) (hn2 : n ≤ 9223372036854775807) (k : Nat) (ki : Int) (hk : k = 11 ∧ ki = 11) :
    Calls Tryz.prog 115 #[.agg #[.int .u8 ki, .int .i64 at_, .int .i64 n, .string s, .slice la ll lc]] w fun e w' => e = .returned (.bool (fieldsB k at_ n s)) ∧ KB F0 w w' := by
  obtain ⟨w0, rfl⟩ : ∃ w0, w0 = w := ⟨_, rfl⟩
  have Hr : Hid (fieldsB k at_ n s = ((emptyB s || nameB s) && ((n == 0) || (n == 1)) && decide (0 ≤ at_) && true && true)) := Lib.hid (by rcases hk with ⟨rfl, rfl⟩ <;> (show ((emptyB s || nameB s) && (decide ((0 : Int) ≤ n) && decide (n ≤ (1 : Int))) && decide (0 ≤ at_) && true && true) = _; rw [eq01]))
  obtain ⟨B0, HB0, K, c0, c1, c2, c3, -⟩ := boxN w0 ki at_ n s la ll lc
  have HS := Lib.hid (fun W => cname_any s W hs)
  have tE : s.toList.isEmpty = emptyB s := rfl
  generalize emptyB s = bE at tE Hr
  generalize nameB s = bN at HS Hr
  obtain ⟨ba, hba⟩ : ∃ b, decide ((0 : Int) ≤ at_) = b := ⟨_, rfl⟩
  rw [hba] at Hr
  obtain ⟨q0, hq0⟩ : ∃ b, (n == 0) = b := ⟨_, rfl⟩
  rw [hq0] at Hr
  obtain ⟨q1, hq1⟩ : ∃ b, (n == 1) = b := ⟨_, rfl⟩
  rw [hq1] at Hr
  clear hs hn2
  obtain ⟨rfl, rfl⟩ := hk
  cases q0
  · cases q1
    · cases bE
      · rcases (show (bN = false) ∨ (bN = true ∧ ba = false) ∨ (bN = true ∧ ba = true) by cases bN <;> cases ba <;> simp) with rfl | ⟨rfl, rfl⟩ | ⟨rfl, rfl⟩
        all_goals
          go_enter Tryz.func115, Tryz.ntmps115
          go_wp2_with fail
          rw [← HB0.out]
          refine wp_region_rv 8 GQ (kindV []) (by kernel_rfl) (by kernel_rfl) GQ.trans GQ.refl (GQ.start _) (kindV_mono _) ?_
          simp only [List.take_succ_cons, List.take_zero, List.drop_succ_cons, List.drop_zero]
          iterate 8 (refine rv_det (by kernel_rfl) rfl (by intro w hG hH; obtain ⟨n, rfl⟩ := hG; go_simp; first | done | with_reducible rfl) ?_; simp only [Act.put, List.setIfInBounds_toArray, List.set_cons_zero, List.set_cons_succ])
          refine rv_nil (fun w hG hH => ?_)
          obtain ⟨n, rfl⟩ := hG
          clear hH
          go_wp2_with fail
          refine (HS.out _).mono ?_
          rintro e _ ⟨rfl, rfl⟩
          go_wp2_with fail
          go_ret
          exact ⟨ret_eq (by rw [Hr.out]; rfl), K.drewN _⟩
      · cases ba
        all_goals
          go_enter Tryz.func115, Tryz.ntmps115
          go_wp2_with fail
          rw [← HB0.out]
          refine wp_region_rv 8 GQ (kindV []) (by kernel_rfl) (by kernel_rfl) GQ.trans GQ.refl (GQ.start _) (kindV_mono _) ?_
          simp only [List.take_succ_cons, List.take_zero, List.drop_succ_cons, List.drop_zero]
          iterate 8 (refine rv_det (by kernel_rfl) rfl (by intro w hG hH; obtain ⟨n, rfl⟩ := hG; go_simp; first | done | with_reducible rfl) ?_; simp only [Act.put, List.setIfInBounds_toArray, List.set_cons_zero, List.set_cons_succ])
          refine rv_nil (fun w hG hH => ?_)
          obtain ⟨n, rfl⟩ := hG
          clear hH
          go_wp2_with fail
          go_ret
          exact ⟨ret_eq (by rw [Hr.out]; rfl), K.drewN _⟩
    · cases bE
      · rcases (show (bN = false) ∨ (bN = true ∧ ba = false) ∨ (bN = true ∧ ba = true) by cases bN <;> cases ba <;> simp) with rfl | ⟨rfl, rfl⟩ | ⟨rfl, rfl⟩
        all_goals
          go_enter Tryz.func115, Tryz.ntmps115
          go_wp2_with fail
          rw [← HB0.out]
          refine wp_region_rv 8 GQ (kindV []) (by kernel_rfl) (by kernel_rfl) GQ.trans GQ.refl (GQ.start _) (kindV_mono _) ?_
          simp only [List.take_succ_cons, List.take_zero, List.drop_succ_cons, List.drop_zero]
          iterate 8 (refine rv_det (by kernel_rfl) rfl (by intro w hG hH; obtain ⟨n, rfl⟩ := hG; go_simp; first | done | with_reducible rfl) ?_; simp only [Act.put, List.setIfInBounds_toArray, List.set_cons_zero, List.set_cons_succ])
          refine rv_nil (fun w hG hH => ?_)
          obtain ⟨n, rfl⟩ := hG
          clear hH
          go_wp2_with fail
          refine (HS.out _).mono ?_
          rintro e _ ⟨rfl, rfl⟩
          go_wp2_with fail
          go_ret
          exact ⟨ret_eq (by rw [Hr.out]; rfl), K.drewN _⟩
      · cases ba
        all_goals
          go_enter Tryz.func115, Tryz.ntmps115
          go_wp2_with fail
          rw [← HB0.out]
          refine wp_region_rv 8 GQ (kindV []) (by kernel_rfl) (by kernel_rfl) GQ.trans GQ.refl (GQ.start _) (kindV_mono _) ?_
          simp only [List.take_succ_cons, List.take_zero, List.drop_succ_cons, List.drop_zero]
          iterate 8 (refine rv_det (by kernel_rfl) rfl (by intro w hG hH; obtain ⟨n, rfl⟩ := hG; go_simp; first | done | with_reducible rfl) ?_; simp only [Act.put, List.setIfInBounds_toArray, List.set_cons_zero, List.set_cons_succ])
          refine rv_nil (fun w hG hH => ?_)
          obtain ⟨n, rfl⟩ := hG
          clear hH
          go_wp2_with fail
          go_ret
          exact ⟨ret_eq (by rw [Hr.out]; rfl), K.drewN _⟩
  · cases q1
    · cases bE
      · rcases (show (bN = false) ∨ (bN = true ∧ ba = false) ∨ (bN = true ∧ ba = true) by cases bN <;> cases ba <;> simp) with rfl | ⟨rfl, rfl⟩ | ⟨rfl, rfl⟩
        all_goals
          go_enter Tryz.func115, Tryz.ntmps115
          go_wp2_with fail
          rw [← HB0.out]
          refine wp_region_rv 8 GQ (kindV []) (by kernel_rfl) (by kernel_rfl) GQ.trans GQ.refl (GQ.start _) (kindV_mono _) ?_
          simp only [List.take_succ_cons, List.take_zero, List.drop_succ_cons, List.drop_zero]
          iterate 8 (refine rv_det (by kernel_rfl) rfl (by intro w hG hH; obtain ⟨n, rfl⟩ := hG; go_simp; first | done | with_reducible rfl) ?_; simp only [Act.put, List.setIfInBounds_toArray, List.set_cons_zero, List.set_cons_succ])
          refine rv_nil (fun w hG hH => ?_)
          obtain ⟨n, rfl⟩ := hG
          clear hH
          go_wp2_with fail
          refine (HS.out _).mono ?_
          rintro e _ ⟨rfl, rfl⟩
          go_wp2_with fail
          go_ret
          exact ⟨ret_eq (by rw [Hr.out]; rfl), K.drewN _⟩
      · cases ba
        all_goals
          go_enter Tryz.func115, Tryz.ntmps115
          go_wp2_with fail
          rw [← HB0.out]
          refine wp_region_rv 8 GQ (kindV []) (by kernel_rfl) (by kernel_rfl) GQ.trans GQ.refl (GQ.start _) (kindV_mono _) ?_
          simp only [List.take_succ_cons, List.take_zero, List.drop_succ_cons, List.drop_zero]
          iterate 8 (refine rv_det (by kernel_rfl) rfl (by intro w hG hH; obtain ⟨n, rfl⟩ := hG; go_simp; first | done | with_reducible rfl) ?_; simp only [Act.put, List.setIfInBounds_toArray, List.set_cons_zero, List.set_cons_succ])
          refine rv_nil (fun w hG hH => ?_)
          obtain ⟨n, rfl⟩ := hG
          clear hH
          go_wp2_with fail
          go_ret
          exact ⟨ret_eq (by rw [Hr.out]; rfl), K.drewN _⟩
    · cases bE
      · rcases (show (bN = false) ∨ (bN = true ∧ ba = false) ∨ (bN = true ∧ ba = true) by cases bN <;> cases ba <;> simp) with rfl | ⟨rfl, rfl⟩ | ⟨rfl, rfl⟩
        all_goals
          go_enter Tryz.func115, Tryz.ntmps115
          go_wp2_with fail
          rw [← HB0.out]
          refine wp_region_rv 8 GQ (kindV []) (by kernel_rfl) (by kernel_rfl) GQ.trans GQ.refl (GQ.start _) (kindV_mono _) ?_
          simp only [List.take_succ_cons, List.take_zero, List.drop_succ_cons, List.drop_zero]
          iterate 8 (refine rv_det (by kernel_rfl) rfl (by intro w hG hH; obtain ⟨n, rfl⟩ := hG; go_simp; first | done | with_reducible rfl) ?_; simp only [Act.put, List.setIfInBounds_toArray, List.set_cons_zero, List.set_cons_succ])
          refine rv_nil (fun w hG hH => ?_)
          obtain ⟨n, rfl⟩ := hG
          clear hH
          go_wp2_with fail
          refine (HS.out _).mono ?_
          rintro e _ ⟨rfl, rfl⟩
          go_wp2_with fail
          go_ret
          exact ⟨ret_eq (by rw [Hr.out]; rfl), K.drewN _⟩
      · cases ba
        all_goals
          go_enter Tryz.func115, Tryz.ntmps115
          go_wp2_with fail
          rw [← HB0.out]
          refine wp_region_rv 8 GQ (kindV []) (by kernel_rfl) (by kernel_rfl) GQ.trans GQ.refl (GQ.start _) (kindV_mono _) ?_
          simp only [List.take_succ_cons, List.take_zero, List.drop_succ_cons, List.drop_zero]
          iterate 8 (refine rv_det (by kernel_rfl) rfl (by intro w hG hH; obtain ⟨n, rfl⟩ := hG; go_simp; first | done | with_reducible rfl) ?_; simp only [Act.put, List.setIfInBounds_toArray, List.set_cons_zero, List.set_cons_succ])
          refine rv_nil (fun w hG hH => ?_)
          obtain ⟨n, rfl⟩ := hG
          clear hH
          go_wp2_with fail
          go_ret
          exact ⟨ret_eq (by rw [Hr.out]; rfl), K.drewN _⟩
set_option maxRecDepth 100000 in
set_option maxHeartbeats 40000000 in
theorem fields_g4 (hs : s.size ≤ 9223372036854775807) (hn2 : n ≤ 9223372036854775807) (k : Nat) (ki : Int) (hk : k = 4 ∧ ki = 4) :
    Calls Tryz.prog 115 #[.agg #[.int .u8 ki, .int .i64 at_, .int .i64 n, .string s, .slice la ll lc]] w fun e w' => e = .returned (.bool (fieldsB k at_ n s)) ∧ KB F0 w w' := by
  obtain ⟨w0, rfl⟩ : ∃ w0, w0 = w := ⟨_, rfl⟩
  have Hr : Hid (fieldsB k at_ n s = (nameB s && (decide ((0 : Int) ≤ n) && decide (n ≤ (8 : Int))) && decide (0 ≤ at_) && true && true)) := Lib.hid (by rcases hk with ⟨rfl, rfl⟩ <;> (show (nameB s && (decide ((0 : Int) ≤ n) && decide (n ≤ (8 : Int))) && decide (0 ≤ at_) && true && true) = _; rfl))
  obtain ⟨B0, HB0, K, c0, c1, c2, c3, -⟩ := boxN w0 ki at_ n s la ll lc
  have HS := Lib.hid (fun W => cname_any s W hs)
  generalize nameB s = bN at HS Hr
  obtain ⟨ba, hba⟩ : ∃ b, decide ((0 : Int) ≤ at_) = b := ⟨_, rfl⟩
  rw [hba] at Hr
  obtain ⟨q0, hq0⟩ : ∃ b, decide ((0 : Int) ≤ n) = b := ⟨_, rfl⟩
  rw [hq0] at Hr
  obtain ⟨q1, hq1⟩ : ∃ b, decide (n ≤ (8 : Int)) = b := ⟨_, rfl⟩
  rw [hq1] at Hr
  clear hs hn2
  obtain ⟨rfl, rfl⟩ := hk
  rcases (show (q0 = false ∧ q1 = false ∧ bN = false) ∨ (q0 = false ∧ q1 = false ∧ bN = true ∧ ba = false) ∨ (q0 = false ∧ q1 = false ∧ bN = true ∧ ba = true) ∨ (q0 = false ∧ q1 = true ∧ bN = false) ∨ (q0 = false ∧ q1 = true ∧ bN = true ∧ ba = false) ∨ (q0 = false ∧ q1 = true ∧ bN = true ∧ ba = true) ∨ (q0 = true ∧ q1 = false ∧ bN = false) ∨ (q0 = true ∧ q1 = false ∧ bN = true ∧ ba = false) ∨ (q0 = true ∧ q1 = false ∧ bN = true ∧ ba = true) ∨ (q0 = true ∧ q1 = true ∧ bN = false) ∨ (q0 = true ∧ q1 = true ∧ bN = true ∧ ba = false) ∨ (q0 = true ∧ q1 = true ∧ bN = true ∧ ba = true) by cases q0 <;> cases q1 <;> cases bN <;> cases ba <;> simp) with ⟨rfl, rfl, rfl⟩ | ⟨rfl, rfl, rfl, rfl⟩ | ⟨rfl, rfl, rfl, rfl⟩ | ⟨rfl, rfl, rfl⟩ | ⟨rfl, rfl, rfl, rfl⟩ | ⟨rfl, rfl, rfl, rfl⟩ | ⟨rfl, rfl, rfl⟩ | ⟨rfl, rfl, rfl, rfl⟩ | ⟨rfl, rfl, rfl, rfl⟩ | ⟨rfl, rfl, rfl⟩ | ⟨rfl, rfl, rfl, rfl⟩ | ⟨rfl, rfl, rfl, rfl⟩
  all_goals
    go_enter Tryz.func115, Tryz.ntmps115
    go_wp2_with fail
    rw [← HB0.out]
    refine wp_region_rv 8 GQ (kindV []) (by kernel_rfl) (by kernel_rfl) GQ.trans GQ.refl (GQ.start _) (kindV_mono _) ?_
    simp only [List.take_succ_cons, List.take_zero, List.drop_succ_cons, List.drop_zero]
    iterate 8 (refine rv_det (by kernel_rfl) rfl (by intro w hG hH; obtain ⟨n, rfl⟩ := hG; go_simp; first | done | with_reducible rfl) ?_; simp only [Act.put, List.setIfInBounds_toArray, List.set_cons_zero, List.set_cons_succ])
    refine rv_nil (fun w hG hH => ?_)
    obtain ⟨n, rfl⟩ := hG
    clear hH
    go_wp2_with fail
    refine (HS.out _).mono ?_
    rintro e _ ⟨rfl, rfl⟩
    go_wp2_with fail
    go_ret
    exact ⟨ret_eq (by rw [Hr.out]; rfl), K.drewN _⟩
set_option maxRecDepth 100000 in
set_option maxHeartbeats 40000000 in
theorem fields_g32 (hs : s.size ≤ 9223372036854775807) (hn2 : n ≤ 9223372036854775807) (k : Nat) (ki : Int) (hk : k = 32 ∧ ki = 32) :
    Calls Tryz.prog 115 #[.agg #[.int .u8 ki, .int .i64 at_, .int .i64 n, .string s, .slice la ll lc]] w fun e w' => e = .returned (.bool (fieldsB k at_ n s)) ∧ KB F0 w w' := by
  obtain ⟨w0, rfl⟩ : ∃ w0, w0 = w := ⟨_, rfl⟩
  have Hr : Hid (fieldsB k at_ n s = (sgB s && (n == 0) && decide (0 ≤ at_) && true && true)) := Lib.hid (by rcases hk with ⟨rfl, rfl⟩ <;> (show (sgB s && (decide ((0 : Int) ≤ n) && decide (n ≤ (0 : Int))) && decide (0 ≤ at_) && true && true) = _; rw [eq00]))
  obtain ⟨B0, HB0, K, c0, c1, c2, c3, -⟩ := boxN w0 ki at_ n s la ll lc
  have HS := Lib.hid (fun W => csign_any s W)
  generalize sgB s = bN at HS Hr
  obtain ⟨ba, hba⟩ : ∃ b, decide ((0 : Int) ≤ at_) = b := ⟨_, rfl⟩
  rw [hba] at Hr
  obtain ⟨q0, hq0⟩ : ∃ b, (n == 0) = b := ⟨_, rfl⟩
  rw [hq0] at Hr
  clear hs hn2
  obtain ⟨rfl, rfl⟩ := hk
  rcases (show (q0 = false ∧ bN = false) ∨ (q0 = false ∧ bN = true ∧ ba = false) ∨ (q0 = false ∧ bN = true ∧ ba = true) ∨ (q0 = true ∧ bN = false) ∨ (q0 = true ∧ bN = true ∧ ba = false) ∨ (q0 = true ∧ bN = true ∧ ba = true) by cases q0 <;> cases bN <;> cases ba <;> simp) with ⟨rfl, rfl⟩ | ⟨rfl, rfl, rfl⟩ | ⟨rfl, rfl, rfl⟩ | ⟨rfl, rfl⟩ | ⟨rfl, rfl, rfl⟩ | ⟨rfl, rfl, rfl⟩
  all_goals
    go_enter Tryz.func115, Tryz.ntmps115
    go_wp2_with fail
    rw [← HB0.out]
    refine wp_region_rv 8 GQ (kindV []) (by kernel_rfl) (by kernel_rfl) GQ.trans GQ.refl (GQ.start _) (kindV_mono _) ?_
    simp only [List.take_succ_cons, List.take_zero, List.drop_succ_cons, List.drop_zero]
    iterate 8 (refine rv_det (by kernel_rfl) rfl (by intro w hG hH; obtain ⟨n, rfl⟩ := hG; go_simp; first | done | with_reducible rfl) ?_; simp only [Act.put, List.setIfInBounds_toArray, List.set_cons_zero, List.set_cons_succ])
    refine rv_nil (fun w hG hH => ?_)
    obtain ⟨n, rfl⟩ := hG
    clear hH
    go_wp2_with fail
    refine (HS.out _).mono ?_
    rintro e _ ⟨rfl, rfl⟩
    go_wp2_with fail
    go_ret
    exact ⟨ret_eq (by rw [Hr.out]; rfl), K.drewN _⟩
set_option maxRecDepth 100000 in
set_option maxHeartbeats 40000000 in
theorem fields_0 (hs : s.size ≤ 9223372036854775807) (hn2 : n ≤ 9223372036854775807) :
    Calls Tryz.prog 115 #[.agg #[.int .u8 0, .int .i64 at_, .int .i64 n, .string s, .slice la ll lc]] w fun e w' => e = .returned (.bool (fieldsB 0 at_ n s)) ∧ KB F0 w w' := by
  obtain ⟨w0, rfl⟩ : ∃ w0, w0 = w := ⟨_, rfl⟩
  have Hr : Hid (fieldsB 0 at_ n s = (emptyB s && (n == 0) && decide (0 ≤ at_) && false && true)) := Lib.hid (by
    show (emptyB s && (decide ((0 : Int) ≤ n) && decide (n ≤ (0 : Int))) && decide (0 ≤ at_) && false && true) = _
    rw [eq00])
  obtain ⟨B0, HB0, K, c0, c1, c2, c3, -⟩ := boxN w0 0 at_ n s la ll lc
  have tE : s.toList.isEmpty = emptyB s := rfl
  generalize emptyB s = bE at tE Hr
  obtain ⟨ba, hba⟩ : ∃ b, decide ((0 : Int) ≤ at_) = b := ⟨_, rfl⟩
  rw [hba] at Hr
  obtain ⟨q0, hq0⟩ : ∃ b, (n == 0) = b := ⟨_, rfl⟩
  rw [hq0] at Hr
  clear hs hn2
  rcases (show (q0 = false ∧ bE = false) ∨ (q0 = false ∧ bE = true ∧ ba = false) ∨ (q0 = false ∧ bE = true ∧ ba = true) ∨ (q0 = true ∧ bE = false) ∨ (q0 = true ∧ bE = true ∧ ba = false) ∨ (q0 = true ∧ bE = true ∧ ba = true) by cases q0 <;> cases bE <;> cases ba <;> simp) with ⟨rfl, rfl⟩ | ⟨rfl, rfl, rfl⟩ | ⟨rfl, rfl, rfl⟩ | ⟨rfl, rfl⟩ | ⟨rfl, rfl, rfl⟩ | ⟨rfl, rfl, rfl⟩
  all_goals
    go_enter Tryz.func115, Tryz.ntmps115
    go_wp2_with fail
    rw [← HB0.out]
    refine wp_region_rv 8 GQ (kindV []) (by kernel_rfl) (by kernel_rfl) GQ.trans GQ.refl (GQ.start _) (kindV_mono _) ?_
    simp only [List.take_succ_cons, List.take_zero, List.drop_succ_cons, List.drop_zero]
    iterate 8 (refine rv_det (by kernel_rfl) rfl (by intro w hG hH; obtain ⟨n, rfl⟩ := hG; go_simp; first | done | with_reducible rfl) ?_; simp only [Act.put, List.setIfInBounds_toArray, List.set_cons_zero, List.set_cons_succ])
    refine rv_nil (fun w hG hH => ?_)
    obtain ⟨n, rfl⟩ := hG
    clear hH
    go_wp2_with fail
    go_ret
    exact ⟨ret_eq (by rw [Hr.out]; rfl), K.drewN _⟩
end
end Go.Proofs.YtoophdcagpfmpaaGreatDoor

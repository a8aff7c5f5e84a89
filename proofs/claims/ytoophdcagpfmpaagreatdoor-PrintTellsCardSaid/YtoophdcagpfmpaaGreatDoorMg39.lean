/- loanwordref03.fields at each kind of nodes. Small facts for loanwordref03.children. -/
import Derived.Test.YtoophdcagpfmpaaGreatDoorMg37
namespace Go.Proofs.YtoophdcagpfmpaaGreatDoor
open Go.RowKit
section
variable (at_ n : Int) (s : ByteArray) (la : Option Addr) (ll lc : Nat) (w : World)
set_option maxRecDepth 100000 in
set_option maxHeartbeats 40000000 in
theorem fields_g19 (hs : s.size ≤ 9223372036854775807) (hn2 : n ≤ 9223372036854775807) (k : Nat) (ki : Int) (hk : k = 19 ∧ ki = 19 ∨ k = 20 ∧ ki = 20 ∨ k = 21 ∧ ki = 21 ∨ k = 22 ∧ ki = 22 ∨ k = 23 ∧ ki = 23 ∨ k = 28 ∧ ki = 28 ∨ k = 30 ∧ ki = 30 ∨ k = 31 ∧ ki = 31) :
    Calls Tryz.prog 115 #[.agg #[.int .u8 ki, .int .i64 at_, .int .i64 n, .string s, .slice la ll lc]] w fun e w' => e = .returned (.bool (fieldsB k at_ n s)) ∧ KB F0 w w' := by
  obtain ⟨w0, rfl⟩ : ∃ w0, w0 = w := ⟨_, rfl⟩
  have Hr : Hid (fieldsB k at_ n s = (emptyB s && (n == 0) && decide (0 ≤ at_) && true && true)) := Lib.hid (by rcases hk with ⟨rfl, rfl⟩ | ⟨rfl, rfl⟩ | ⟨rfl, rfl⟩ | ⟨rfl, rfl⟩ | ⟨rfl, rfl⟩ | ⟨rfl, rfl⟩ | ⟨rfl, rfl⟩ | ⟨rfl, rfl⟩ <;> (show (emptyB s && (decide ((0 : Int) ≤ n) && decide (n ≤ (0 : Int))) && decide (0 ≤ at_) && true && true) = _; rw [eq00]))
  obtain ⟨B0, HB0, K, c0, c1, c2, c3, -⟩ := boxN w0 ki at_ n s la ll lc
  have tE : s.toList.isEmpty = emptyB s := rfl
  generalize emptyB s = bE at tE Hr
  obtain ⟨ba, hba⟩ : ∃ b, decide ((0 : Int) ≤ at_) = b := ⟨_, rfl⟩
  rw [hba] at Hr
  obtain ⟨q0, hq0⟩ : ∃ b, (n == 0) = b := ⟨_, rfl⟩
  rw [hq0] at Hr
  clear hs hn2
  rcases hk with ⟨rfl, rfl⟩ | ⟨rfl, rfl⟩ | ⟨rfl, rfl⟩ | ⟨rfl, rfl⟩ | ⟨rfl, rfl⟩ | ⟨rfl, rfl⟩ | ⟨rfl, rfl⟩ | ⟨rfl, rfl⟩
  all_goals
    rcases (show (q0 = false ∧ bE = false) ∨ (q0 = false ∧ bE = true ∧ ba = false) ∨ (q0 = false ∧ bE = true ∧ ba = true) ∨ (q0 = true ∧ bE = false) ∨ (q0 = true ∧ bE = true ∧ ba = false) ∨ (q0 = true ∧ bE = true ∧ ba = true) by cases q0 <;> cases bE <;> cases ba <;> simp) with ⟨rfl, rfl⟩ | ⟨rfl, rfl, rfl⟩ | ⟨rfl, rfl, rfl⟩ | ⟨rfl, rfl⟩ | ⟨rfl, rfl, rfl⟩ | ⟨rfl, rfl, rfl⟩
    all_goals
      go_enter Tryz.func115, Tryz.ntmps115
      go_wp2_with fail
      rw [← HB0.out]
      refine wp_region_rv 8 GQ (kindV []) (by kernel_rfl) (by kernel_rfl) GQ.trans GQ.refl (GQ.start _) (kindV_mono _) ?_
      simp only [List.take_succ_cons, List.take_zero, List.drop_succ_cons, List.drop_zero]
      iterate 8 (refine rv_det (by kernel_rfl) rfl (by intro w hG hH; obtain ⟨n, rfl⟩ := hG; go_simp; first | done | with_reducible rfl) ?_; simp only [Act.put, List.setIfInBounds_toArray, List.set_cons_zero, List.set_cons_succ])
      refine rv_nil (fun w hG hH => ?_)
      obtain ⟨n, rfl⟩ := hG
      clear hH
      go_wp2_with fail
      go_ret
      exact ⟨ret_eq (by rw [Hr.out]; rfl), K.drewN _⟩
set_option maxRecDepth 100000 in
set_option maxHeartbeats 40000000 in
theorem fields_g2 (hs : s.size ≤ 9223372036854775807) (hn2 : n ≤ 9223372036854775807) (k : Nat) (ki : Int) (hk : k = 2 ∧ ki = 2 ∨ k = 12 ∧ ki = 12 ∨ k = 34 ∧ ki = 34) :
    Calls Tryz.prog 115 #[.agg #[.int .u8 ki, .int .i64 at_, .int .i64 n, .string s, .slice la ll lc]] w fun e w' => e = .returned (.bool (fieldsB k at_ n s)) ∧ KB F0 w w' := by
  obtain ⟨w0, rfl⟩ : ∃ w0, w0 = w := ⟨_, rfl⟩
  have Hr : Hid (fieldsB k at_ n s = (typeNameB s && (n == 0) && decide (0 ≤ at_) && true && true)) := Lib.hid (by rcases hk with ⟨rfl, rfl⟩ | ⟨rfl, rfl⟩ | ⟨rfl, rfl⟩ <;> (show (typeNameB s && (decide ((0 : Int) ≤ n) && decide (n ≤ (0 : Int))) && decide (0 ≤ at_) && true && true) = _; rw [eq00]))
  obtain ⟨B0, HB0, K, c0, c1, c2, c3, -⟩ := boxN w0 ki at_ n s la ll lc
  have HS := Lib.hid (fun W => ctypeName_any s W hs)
  generalize typeNameB s = bN at HS Hr
  obtain ⟨ba, hba⟩ : ∃ b, decide ((0 : Int) ≤ at_) = b := ⟨_, rfl⟩
  rw [hba] at Hr
  obtain ⟨q0, hq0⟩ : ∃ b, (n == 0) = b := ⟨_, rfl⟩
  rw [hq0] at Hr
  clear hs hn2
  rcases hk with ⟨rfl, rfl⟩ | ⟨rfl, rfl⟩ | ⟨rfl, rfl⟩
  all_goals
    rcases (show (q0 = false ∧ bN = false) ∨ (q0 = false ∧ bN = true ∧ ba = false) ∨ (q0 = false ∧ bN = true ∧ ba = true) ∨ (q0 = true ∧ bN = false) ∨ (q0 = true ∧ bN = true ∧ ba = false) ∨ (q0 = true ∧ bN = true ∧ ba = true) by cases q0 <;> cases bN <;> cases ba <;> simp) with ⟨rfl, rfl⟩ | ⟨rfl, rfl, rfl⟩ | ⟨rfl, rfl, rfl⟩ | ⟨rfl, rfl⟩ | ⟨rfl, rfl, rfl⟩ | ⟨rfl, rfl, rfl⟩
    all_goals
      go_enter Tryz.func115, Tryz.ntmps115
      go_wp2_with fail
      rw [← HB0.out]
      refine wp_region_rv 8 GQ (kindV []) (by kernel_rfl) (by kernel_rfl) GQ.trans GQ.refl (GQ.start _) (kindV_mono _) ?_
      simp only [List.take_succ_cons, List.take_zero, List.drop_succ_cons, List.drop_zero]
      iterate 8 (refine rv_det (by kernel_rfl) rfl (by intro w hG hH; obtain ⟨n, rfl⟩ := hG; go_simp; first | done | with_reducible rfl) ?_; simp only [Act.put, List.setIfInBounds_toArray, List.set_cons_zero, List.set_cons_succ])
      refine rv_nil (fun w hG hH => ?_)
      obtain ⟨n, rfl⟩ := hG
      clear hH
      go_wp2_with fail
      refine (HS.out _).mono ?_
      rintro e _ ⟨rfl, rfl⟩
      go_wp2_with fail
      go_ret
      exact ⟨ret_eq (by rw [Hr.out]; rfl), K.drewN _⟩
set_option maxRecDepth 100000 in
set_option maxHeartbeats 40000000 in
theorem fields_g25 (hs : s.size ≤ 9223372036854775807) (hn2 : n ≤ 9223372036854775807) (k : Nat) (ki : Int) (hk : k = 25 ∧ ki = 25 ∨ k = 29 ∧ ki = 29 ∨ k = 16 ∧ ki = 16) :
    Calls Tryz.prog 115 #[.agg #[.int .u8 ki, .int .i64 at_, .int .i64 n, .string s, .slice la ll lc]] w fun e w' => e = .returned (.bool (fieldsB k at_ n s)) ∧ KB F0 w w' := by
  obtain ⟨w0, rfl⟩ : ∃ w0, w0 = w := ⟨_, rfl⟩
  have Hr : Hid (fieldsB k at_ n s = (emptyB s && ((n == 0) || (n == 1)) && decide (0 ≤ at_) && true && true)) := Lib.hid (by rcases hk with ⟨rfl, rfl⟩ | ⟨rfl, rfl⟩ | ⟨rfl, rfl⟩ <;> (show (emptyB s && (decide ((0 : Int) ≤ n) && decide (n ≤ (1 : Int))) && decide (0 ≤ at_) && true && true) = _; rw [eq01]))
  obtain ⟨B0, HB0, K, c0, c1, c2, c3, -⟩ := boxN w0 ki at_ n s la ll lc
  have tE : s.toList.isEmpty = emptyB s := rfl
  generalize emptyB s = bE at tE Hr
  obtain ⟨ba, hba⟩ : ∃ b, decide ((0 : Int) ≤ at_) = b := ⟨_, rfl⟩
  rw [hba] at Hr
  obtain ⟨q0, hq0⟩ : ∃ b, (n == 0) = b := ⟨_, rfl⟩
  rw [hq0] at Hr
  obtain ⟨q1, hq1⟩ : ∃ b, (n == 1) = b := ⟨_, rfl⟩
  rw [hq1] at Hr
  clear hs hn2
  rcases hk with ⟨rfl, rfl⟩ | ⟨rfl, rfl⟩ | ⟨rfl, rfl⟩
  all_goals
    rcases (show (q0 = false ∧ q1 = false ∧ bE = false) ∨ (q0 = false ∧ q1 = false ∧ bE = true ∧ ba = false) ∨ (q0 = false ∧ q1 = false ∧ bE = true ∧ ba = true) ∨ (q0 = false ∧ q1 = true ∧ bE = false) ∨ (q0 = false ∧ q1 = true ∧ bE = true ∧ ba = false) ∨ (q0 = false ∧ q1 = true ∧ bE = true ∧ ba = true) ∨ (q0 = true ∧ q1 = false ∧ bE = false) ∨ (q0 = true ∧ q1 = false ∧ bE = true ∧ ba = false) ∨ (q0 = true ∧ q1 = false ∧ bE = true ∧ ba = true) ∨ (q0 = true ∧ q1 = true ∧ bE = false) ∨ (q0 = true ∧ q1 = true ∧ bE = true ∧ ba = false) ∨ (q0 = true ∧ q1 = true ∧ bE = true ∧ ba = true) by cases q0 <;> cases q1 <;> cases bE <;> cases ba <;> simp) with ⟨rfl, rfl, rfl⟩ | ⟨rfl, rfl, rfl, rfl⟩ | ⟨rfl, rfl, rfl, rfl⟩ | ⟨rfl, rfl, rfl⟩ | ⟨rfl, rfl, rfl, rfl⟩ | ⟨rfl, rfl, rfl, rfl⟩ | ⟨rfl, rfl, rfl⟩ | ⟨rfl, rfl, rfl, rfl⟩ | ⟨rfl, rfl, rfl, rfl⟩ | ⟨rfl, rfl, rfl⟩ | ⟨rfl, rfl, rfl, rfl⟩ | ⟨rfl, rfl, rfl, rfl⟩
    all_goals
      go_enter Tryz.func115, Tryz.ntmps115
      go_wp2_with fail
      rw [← HB0.out]
      refine wp_region_rv 8 GQ (kindV []) (by kernel_rfl) (by kernel_rfl) GQ.trans GQ.refl (GQ.start _) (kindV_mono _) ?_
      simp only [List.take_succ_cons, List.take_zero, List.drop_succ_cons, List.drop_zero]
      iterate 8 (refine rv_det (by kernel_rfl) rfl (by intro w hG hH; obtain ⟨n, rfl⟩ := hG; go_simp; first | done | with_reducible rfl) ?_; simp only [Act.put, List.setIfInBounds_toArray, List.set_cons_zero, List.set_cons_succ])
      refine rv_nil (fun w hG hH => ?_)
      obtain ⟨n, rfl⟩ := hG
      clear hH
      go_wp2_with fail
      go_ret
      exact ⟨ret_eq (by rw [Hr.out]; rfl), K.drewN _⟩
set_option maxRecDepth 100000 in
set_option maxHeartbeats 40000000 in
theorem fields_g36 (hs : s.size ≤ 9223372036854775807) (hn2 : n ≤ 9223372036854775807) (k : Nat) (ki : Int) (hk : k = 36 ∧ ki = 36 ∨ k = 37 ∧ ki = 37) :
    Calls Tryz.prog 115 #[.agg #[.int .u8 ki, .int .i64 at_, .int .i64 n, .string s, .slice la ll lc]] w fun e w' => e = .returned (.bool (fieldsB k at_ n s)) ∧ KB F0 w w' := by
  obtain ⟨w0, rfl⟩ : ∃ w0, w0 = w := ⟨_, rfl⟩
  have Hr : Hid (fieldsB k at_ n s = (emptyB s && (n == 0) && decide (0 ≤ at_) && true && true)) := Lib.hid (by rcases hk with ⟨rfl, rfl⟩ | ⟨rfl, rfl⟩ <;> (show (emptyB s && (decide ((0 : Int) ≤ n) && decide (n ≤ (0 : Int))) && decide (0 ≤ at_) && true && true) = _; rw [eq00]))
  obtain ⟨B0, HB0, K, c0, c1, c2, c3, -⟩ := boxN w0 ki at_ n s la ll lc
  have tE : s.toList.isEmpty = emptyB s := rfl
  generalize emptyB s = bE at tE Hr
  obtain ⟨ba, hba⟩ : ∃ b, decide ((0 : Int) ≤ at_) = b := ⟨_, rfl⟩
  rw [hba] at Hr
  obtain ⟨q0, hq0⟩ : ∃ b, (n == 0) = b := ⟨_, rfl⟩
  rw [hq0] at Hr
  clear hs hn2
  rcases hk with ⟨rfl, rfl⟩ | ⟨rfl, rfl⟩
  all_goals
    rcases (show (q0 = false ∧ bE = false) ∨ (q0 = false ∧ bE = true ∧ ba = false) ∨ (q0 = false ∧ bE = true ∧ ba = true) ∨ (q0 = true ∧ bE = false) ∨ (q0 = true ∧ bE = true ∧ ba = false) ∨ (q0 = true ∧ bE = true ∧ ba = true) by cases q0 <;> cases bE <;> cases ba <;> simp) with ⟨rfl, rfl⟩ | ⟨rfl, rfl, rfl⟩ | ⟨rfl, rfl, rfl⟩ | ⟨rfl, rfl⟩ | ⟨rfl, rfl, rfl⟩ | ⟨rfl, rfl, rfl⟩
    all_goals
      go_enter Tryz.func115, Tryz.ntmps115
      go_wp2_with fail
      rw [← HB0.out]
      refine wp_region_rv 8 GQ (kindV []) (by kernel_rfl) (by kernel_rfl) GQ.trans GQ.refl (GQ.start _) (kindV_mono _) ?_
      simp only [List.take_succ_cons, List.take_zero, List.drop_succ_cons, List.drop_zero]
      iterate 8 (refine rv_det (by kernel_rfl) rfl (by intro w hG hH; obtain ⟨n, rfl⟩ := hG; go_simp; first | done | with_reducible rfl) ?_; simp only [Act.put, List.setIfInBounds_toArray, List.set_cons_zero, List.set_cons_succ])
      refine rv_nil (fun w hG hH => ?_)
      obtain ⟨n, rfl⟩ := hG
      clear hH
      go_wp2_with fail
      go_ret
      exact ⟨ret_eq (by rw [Hr.out]; rfl), K.drewN _⟩
set_option maxRecDepth 100000 in
set_option maxHeartbeats 40000000 in
theorem fields_g24 (hs : s.size ≤ 9223372036854775807) (hn2 : n ≤ 9223372036854775807) (k : Nat) (ki : Int) (hk : k = 24 ∧ ki = 24) :
    Calls Tryz.prog 115 #[.agg #[.int .u8 ki, .int .i64 at_, .int .i64 n, .string s, .slice la ll lc]] w fun e w' => e = .returned (.bool (fieldsB k at_ n s)) ∧ KB F0 w w' := by
  obtain ⟨w0, rfl⟩ : ∃ w0, w0 = w := ⟨_, rfl⟩
  have Hr : Hid (fieldsB k at_ n s = (emptyB s && decide ((0 : Int) ≤ n) && decide (0 ≤ at_) && true && true)) := Lib.hid (by rcases hk with ⟨rfl, rfl⟩ <;> (show (emptyB s && (decide ((0 : Int) ≤ n) && decide (n ≤ (9223372036854775807 : Int))) && decide (0 ≤ at_) && true && true) = _; simp only [show decide (n ≤ (9223372036854775807 : Int)) = true by simpa using hn2, Bool.and_true]))
  obtain ⟨B0, HB0, K, c0, c1, c2, c3, -⟩ := boxN w0 ki at_ n s la ll lc
  have tE : s.toList.isEmpty = emptyB s := rfl
  generalize emptyB s = bE at tE Hr
  obtain ⟨ba, hba⟩ : ∃ b, decide ((0 : Int) ≤ at_) = b := ⟨_, rfl⟩
  rw [hba] at Hr
  obtain ⟨q0, hq0⟩ : ∃ b, decide ((0 : Int) ≤ n) = b := ⟨_, rfl⟩
  rw [hq0] at Hr
  clear hs hn2
  obtain ⟨rfl, rfl⟩ := hk
  rcases (show (q0 = false ∧ bE = false) ∨ (q0 = false ∧ bE = true ∧ ba = false) ∨ (q0 = false ∧ bE = true ∧ ba = true) ∨ (q0 = true ∧ bE = false) ∨ (q0 = true ∧ bE = true ∧ ba = false) ∨ (q0 = true ∧ bE = true ∧ ba = true) by cases q0 <;> cases bE <;> cases ba <;> simp) with ⟨rfl, rfl⟩ | ⟨rfl, rfl, rfl⟩ | ⟨rfl, rfl, rfl⟩ | ⟨rfl, rfl⟩ | ⟨rfl, rfl, rfl⟩ | ⟨rfl, rfl, rfl⟩
  all_goals
    go_enter Tryz.func115, Tryz.ntmps115
    go_wp2_with fail
    rw [← HB0.out]
    refine wp_region_rv 8 GQ (kindV []) (by kernel_rfl) (by kernel_rfl) GQ.trans GQ.refl (GQ.start _) (kindV_mono _) ?_
    simp only [List.take_succ_cons, List.take_zero, List.drop_succ_cons, List.drop_zero]
    iterate 8 (refine rv_det (by kernel_rfl) rfl (by intro w hG hH; obtain ⟨n, rfl⟩ := hG; go_simp; first | done | with_reducible rfl) ?_; simp only [Act.put, List.setIfInBounds_toArray, List.set_cons_zero, List.set_cons_succ])
    refine rv_nil (fun w hG hH => ?_)
    obtain ⟨n, rfl⟩ := hG
    clear hH
    go_wp2_with fail
    go_ret
    exact ⟨ret_eq (by rw [Hr.out]; rfl), K.drewN _⟩
set_option maxRecDepth 100000 in
set_option maxHeartbeats 40000000 in
theorem fields_g14 (hs : s.size ≤ 9223372036854775807) (hn2 : n ≤ 9223372036854775807) (k : Nat) (ki : Int) (hk : k = 14 ∧ ki = 14) :
    Calls Tryz.prog 115 #[.agg #[.int .u8 ki, .int .i64 at_, .int .i64 n, .string s, .slice la ll lc]] w fun e w' => e = .returned (.bool (fieldsB k at_ n s)) ∧ KB F0 w w' := by
  obtain ⟨w0, rfl⟩ : ∃ w0, w0 = w := ⟨_, rfl⟩
  have Hr : Hid (fieldsB k at_ n s = (nameB s && (decide ((1 : Int) ≤ n) && decide (n ≤ (3 : Int))) && decide (0 ≤ at_) && true && true)) := Lib.hid (by rcases hk with ⟨rfl, rfl⟩ <;> (show (nameB s && (decide ((1 : Int) ≤ n) && decide (n ≤ (3 : Int))) && decide (0 ≤ at_) && true && true) = _; rfl))
  obtain ⟨B0, HB0, K, c0, c1, c2, c3, -⟩ := boxN w0 ki at_ n s la ll lc
  have HS := Lib.hid (fun W => cname_any s W hs)
  generalize nameB s = bN at HS Hr
  obtain ⟨ba, hba⟩ : ∃ b, decide ((0 : Int) ≤ at_) = b := ⟨_, rfl⟩
  rw [hba] at Hr
  obtain ⟨q0, hq0⟩ : ∃ b, decide ((1 : Int) ≤ n) = b := ⟨_, rfl⟩
  rw [hq0] at Hr
  obtain ⟨q1, hq1⟩ : ∃ b, decide (n ≤ (3 : Int)) = b := ⟨_, rfl⟩
  rw [hq1] at Hr
  clear hs hn2
  obtain ⟨rfl, rfl⟩ := hk
  rcases (show (q0 = false ∧ q1 = false ∧ bN = false) ∨ (q0 = false ∧ q1 = false ∧ bN = true ∧ ba = false) ∨ (q0 = false ∧ q1 = false ∧ bN = true ∧ ba = true) ∨ (q0 = false ∧ q1 = true ∧ bN = false) ∨ (q0 = false ∧ q1 = true ∧ bN = true ∧ ba = false) ∨ (q0 = false ∧ q1 = true ∧ bN = true ∧ ba = true) ∨ (q0 = true ∧ q1 = false ∧ bN = false) ∨ (q0 = true ∧ q1 = false ∧ bN = true ∧ ba = false) ∨ (q0 = true ∧ q1 = false ∧ bN = true ∧ ba = true) ∨ (q0 = true ∧ q1 = true ∧ bN = false) ∨ (q0 = true ∧ q1 = true ∧ bN = true ∧ ba = false) ∨ (q0 = true ∧ q1 = true ∧ bN = true ∧ ba = true) by cases q0 <;> cases q1 <;> cases bN <;> cases ba <;> simp) with ⟨rfl, rfl, rfl⟩ | ⟨rfl, rfl, rfl, rfl⟩ | ⟨rfl, rfl, rfl, rfl⟩ | ⟨rfl, rfl, rfl⟩ | ⟨rfl, rfl, rfl, rfl⟩ | ⟨rfl, rfl, rfl, rfl⟩ | ⟨rfl, rfl, rfl⟩ | ⟨rfl, rfl, rfl, rfl⟩ | ⟨rfl, rfl, rfl, rfl⟩ | ⟨rfl, rfl, rfl⟩ | ⟨rfl, rfl, rfl, rfl⟩ | ⟨rfl, rfl, rfl, rfl⟩
  all_goals
    go_enter Tryz.func115, Tryz.ntmps115
    go_wp2_with fail
    rw [← HB0.out]
    refine wp_region_rv 8 GQ (kindV []) (by kernel_rfl) (by kernel_rfl) GQ.trans GQ.refl (GQ.start _) (kindV_mono _) ?_
    simp only [List.take_succ_cons, List.take_zero, List.drop_succ_cons, List.drop_zero]
    iterate 8 (refine rv_det (by kernel_rfl) rfl (by intro w hG hH; obtain ⟨n, rfl⟩ := hG; go_simp; first | done | with_reducible rfl) ?_; simp only [Act.put, List.setIfInBounds_toArray, List.set_cons_zero, List.set_cons_succ])
    refine rv_nil (fun w hG hH => ?_)
    obtain ⟨n, rfl⟩ := hG
    clear hH
    go_wp2_with fail
    refine (HS.out _).mono ?_
    rintro e _ ⟨rfl, rfl⟩
    go_wp2_with fail
    go_ret
    exact ⟨ret_eq (by rw [Hr.out]; rfl), K.drewN _⟩
set_option maxRecDepth 100000 in
set_option maxHeartbeats 40000000 in
theorem fields_38 (k : Nat) (hk : 38 ≤ k) (hk2 : k < 256) (hs : s.size ≤ 9223372036854775807) (hn2 : n ≤ 9223372036854775807) :
    Calls Tryz.prog 115 #[.agg #[.int .u8 k, .int .i64 at_, .int .i64 n, .string s, .slice la ll lc]] w fun e w' => e = .returned (.bool (fieldsB k at_ n s)) ∧ KB F0 w w' := by
  obtain ⟨w0, rfl⟩ : ∃ w0, w0 = w := ⟨_, rfl⟩
  have Hr : Hid (fieldsB k at_ n s = (emptyB s && (n == 0) && decide (0 ≤ at_) && true && false)) := Lib.hid (by unfold fieldsB; rw [ask_big n s [] hk]; simp only [eq00]; rw [decide_eq_true (show 1 ≤ k by omega), decide_eq_false (show ¬ k ≤ 37 by omega)])
  obtain ⟨B0, HB0, K, c0, c1, c2, c3, -⟩ := boxN w0 k at_ n s la ll lc
  have tE : s.toList.isEmpty = emptyB s := rfl
  generalize emptyB s = bE at tE Hr
  have u0 : ((k : Int) == 2) = false := by simp; omega
  have u1 : ((k : Int) == 12) = false := by simp; omega
  have u2 : ((k : Int) == 34) = false := by simp; omega
  have u3 : ((k : Int) == 3) = false := by simp; omega
  have u4 : ((k : Int) == 7) = false := by simp; omega
  have u5 : ((k : Int) == 26) = false := by simp; omega
  have u6 : ((k : Int) == 27) = false := by simp; omega
  have u7 : ((k : Int) == 33) = false := by simp; omega
  have u8 : ((k : Int) == 35) = false := by simp; omega
  have u9 : ((k : Int) == 5) = false := by simp; omega
  have u10 : ((k : Int) == 6) = false := by simp; omega
  have u11 : ((k : Int) == 4) = false := by simp; omega
  have u12 : ((k : Int) == 11) = false := by simp; omega
  have u13 : ((k : Int) == 14) = false := by simp; omega
  have u14 : ((k : Int) == 16) = false := by simp; omega
  have u15 : ((k : Int) == 25) = false := by simp; omega
  have u16 : ((k : Int) == 29) = false := by simp; omega
  have u17 : ((k : Int) == 24) = false := by simp; omega
  have u18 : ((k : Int) == 32) = false := by simp; omega
  have v1 : decide ((1 : Int) ≤ (k : Int)) = true := by simp; omega
  have v2 : decide ((k : Int) ≤ (37 : Int)) = false := by simp; omega
  clear hk hk2
  obtain ⟨ba, hba⟩ : ∃ b, decide ((0 : Int) ≤ at_) = b := ⟨_, rfl⟩
  rw [hba] at Hr
  obtain ⟨q0, hq0⟩ : ∃ b, (n == 0) = b := ⟨_, rfl⟩
  rw [hq0] at Hr
  clear hs hn2
  rcases (show (q0 = false ∧ bE = false) ∨ (q0 = false ∧ bE = true ∧ ba = false) ∨ (q0 = false ∧ bE = true ∧ ba = true) ∨ (q0 = true ∧ bE = false) ∨ (q0 = true ∧ bE = true ∧ ba = false) ∨ (q0 = true ∧ bE = true ∧ ba = true) by cases q0 <;> cases bE <;> cases ba <;> simp) with ⟨rfl, rfl⟩ | ⟨rfl, rfl, rfl⟩ | ⟨rfl, rfl, rfl⟩ | ⟨rfl, rfl⟩ | ⟨rfl, rfl, rfl⟩ | ⟨rfl, rfl, rfl⟩
  all_goals
    go_enter Tryz.func115, Tryz.ntmps115
    go_wp2_with fail
    rw [← HB0.out]
    refine wp_region_rv 8 GQ (kindV []) (by kernel_rfl) (by kernel_rfl) GQ.trans GQ.refl (GQ.start _) (kindV_mono _) ?_
    simp only [List.take_succ_cons, List.take_zero, List.drop_succ_cons, List.drop_zero]
    iterate 8 (refine rv_det (by kernel_rfl) rfl (by intro w hG hH; obtain ⟨n, rfl⟩ := hG; go_simp; first | done | with_reducible rfl) ?_; simp only [Act.put, List.setIfInBounds_toArray, List.set_cons_zero, List.set_cons_succ])
    refine rv_nil (fun w hG hH => ?_)
    obtain ⟨n, rfl⟩ := hG
    clear hH
    go_wp2_with fail
    go_ret
    exact ⟨ret_eq (by rw [Hr.out]; rfl), K.drewN _⟩
end
end Go.Proofs.YtoophdcagpfmpaaGreatDoor

namespace Go.Proofs.YtoophdcagpfmpaaGreatDoor
open Go.RowKit
theorem codes_new {W : World} {t : TypeId} (cs : List Cls) : codesAt (W.alloc (.cells ((cs.map codeOf).map (Value.int .i64)).toArray t)) (some ⟨W.heap.size, 0, none⟩) cs := by
  intro k hk
  refine ⟨W.heap.size, 0, rfl, ?_⟩
  rw [Nat.zero_add, new_cell]
  simp only [List.length_map] at hk
  simp [List.getD_eq_getElem?_getD, hk]
theorem allB_full (l : List Nat) (c : Cls) : allB l 0 l.length c = l.all c.ok := by
  rw [Bool.eq_iff_iff]
  unfold allB
  rw [List.all_eq_true, List.all_eq_true]
  constructor
  · intro h y hy
    obtain ⟨i, hi, rfl⟩ := List.getElem_of_mem hy
    have := h i (by rw [List.mem_range'_1]; omega)
    rwa [List.getD_eq_getElem?_getD, List.getElem?_eq_getElem hi] at this
  · intro h q hq
    rw [List.mem_range'_1] at hq
    exact h _ (getD_mem (by omega))
theorem all_full (a : Option Addr) (l : List Nat) (cap : Nat) (c : Cls) (hc : Plain c) (w : World) (hl : l.length ≤ 9223372036854775807) (hb : ∀ y ∈ l, y < 256) (ha : KindsAt w a l) :
    Calls Tryz.prog 149 #[.slice a l.length cap, .int .i64 0, .int .i64 l.length, .int .i64 (codeOf c)] w fun e w' => e = .returned (.bool (l.all c.ok)) ∧ w = w' := by
  have h := call_any a l cap 0 l.length c hc w hl (Nat.le_refl _) (Nat.zero_le _) hb ha
  rw [allB_full] at h
  exact h
theorem just_or (l : List Nat) : justB l [.ex, .kd [13], .kd [13, 16]] = (justB l [.ex, .kd [13], .kd [13]] || justB l [.ex, .kd [13], .kd [16]]) := by
  unfold justB
  simp only [List.length_cons, List.length_nil, show (List.range (0 + 1 + 1 + 1)) = [0, 1, 2] from rfl, List.all_cons, List.all_nil, justF, List.getD_cons_zero, List.getD_cons_succ, Cls.ok, List.any_cons, List.any_nil, Bool.or_false, Bool.and_true]
  cases decide (l.length = 0 + 1 + 1 + 1) <;> cases isExprB (l.getD 0 0) <;> cases (13 == l.getD 1 0) <;> simp
end Go.Proofs.YtoophdcagpfmpaaGreatDoor

/- loanwordref03.fields at each kind of nodes. -/
import Derived.Test.YtjefoojkgocinaaDoorTreeM
namespace Go.Proofs.YtjefoojkgocinaaDoor
open Go.RowKit
set_option maxRecDepth 100000 in
set_option maxHeartbeats 4000000 in
theorem fields_30 (at_ n : Int) (s : ByteArray) (la : Option Addr) (ll lc : Nat) (w : World) (_hs : s.size ≤ 9223372036854775807) (_hn2 : n ≤ 9223372036854775807) :
    Calls Tryd.prog 62 #[.agg #[.int .u8 30, .int .i64 at_, .int .i64 n, .string s, .slice la ll lc]] w fun e w' => e = .returned (.bool (fieldsB 30 at_ n s)) ∧ KB F0 w w' := by
  obtain ⟨w0, rfl⟩ : ∃ w0, w0 = w := ⟨_, rfl⟩
  have Hr : Hid (fieldsB 30 at_ n s = (emptyB s && (n == 0) && decide (0 ≤ at_) && true && true)) := Lib.hid (by
    show (emptyB s && (decide ((0 : Int) ≤ n) && decide (n ≤ (0 : Int))) && decide (0 ≤ at_) && true && true) = _
    rw [eq00])
  obtain ⟨B0, hB0⟩ : ∃ B0, B0 = (w0.alloc (.cells #[.int .u8 30, .int .i64 at_, .int .i64 n, .string s, .slice la ll lc] 25)) := ⟨_, rfl⟩
  have K : KB F0 w0 B0 := by subst hB0; exact (KB.refl _ _).alloc _
  have c0 : B0.cell? ⟨w0.heap.size, 0, none⟩ = some (.int .u8 30) := by subst hB0; exact new_cell _ _ _ 0
  have c1 : B0.cell? ⟨w0.heap.size, 1, none⟩ = some (.int .i64 at_) := by subst hB0; exact new_cell _ _ _ 1
  have c2 : B0.cell? ⟨w0.heap.size, 2, none⟩ = some (.int .i64 n) := by subst hB0; exact new_cell _ _ _ 2
  have c3 : B0.cell? ⟨w0.heap.size, 3, none⟩ = some (.string s) := by subst hB0; exact new_cell _ _ _ 3
  have HB0 := Lib.hid hB0
  clear hB0
  have tE : s.toList.isEmpty = emptyB s := rfl
  generalize emptyB s = bE at tE Hr
  obtain ⟨ba, hba⟩ : ∃ b, decide ((0 : Int) ≤ at_) = b := ⟨_, rfl⟩
  rw [hba] at Hr
  obtain ⟨q0, hq0⟩ : ∃ b, (n == 0) = b := ⟨_, rfl⟩
  rw [hq0] at Hr
  clear _hs _hn2
  cases bE
  · go_enter Tryd.func62, Tryd.ntmps62
    go_wp2_with fail
    rw [← HB0.out]
    refine wp_region_rv 8 GQ (kindV []) (by kernel_rfl) (by kernel_rfl) GQ.trans GQ.refl (GQ.start _) (kindV_mono _) ?_
    simp only [List.take_succ_cons, List.take_zero, List.drop_succ_cons, List.drop_zero]
    iterate 8 (refine rv_det (by kernel_rfl) rfl (by intro w hG hH; obtain ⟨n, rfl⟩ := hG; go_simp; first | done | with_reducible rfl) ?_; simp only [Act.put, List.setIfInBounds_toArray, List.set_cons_zero, List.set_cons_succ])
    refine rv_nil (fun w hG hH => ?_)
    obtain ⟨n, rfl⟩ := hG
    clear hH
    go_wp2_with fail
    go_ret
    exact ⟨ret_eq (by rw [Hr.out]; rfl), K.drewN _⟩
  · cases q0
    · cases ba
      · go_enter Tryd.func62, Tryd.ntmps62
        go_wp2_with fail
        rw [← HB0.out]
        refine wp_region_rv 8 GQ (kindV []) (by kernel_rfl) (by kernel_rfl) GQ.trans GQ.refl (GQ.start _) (kindV_mono _) ?_
        simp only [List.take_succ_cons, List.take_zero, List.drop_succ_cons, List.drop_zero]
        iterate 8 (refine rv_det (by kernel_rfl) rfl (by intro w hG hH; obtain ⟨n, rfl⟩ := hG; go_simp; first | done | with_reducible rfl) ?_; simp only [Act.put, List.setIfInBounds_toArray, List.set_cons_zero, List.set_cons_succ])
        refine rv_nil (fun w hG hH => ?_)
        obtain ⟨n, rfl⟩ := hG
        clear hH
        go_wp2_with fail
        go_ret
        exact ⟨ret_eq (by rw [Hr.out]; rfl), K.drewN _⟩
      · go_enter Tryd.func62, Tryd.ntmps62
        go_wp2_with fail
        rw [← HB0.out]
        refine wp_region_rv 8 GQ (kindV []) (by kernel_rfl) (by kernel_rfl) GQ.trans GQ.refl (GQ.start _) (kindV_mono _) ?_
        simp only [List.take_succ_cons, List.take_zero, List.drop_succ_cons, List.drop_zero]
        iterate 8 (refine rv_det (by kernel_rfl) rfl (by intro w hG hH; obtain ⟨n, rfl⟩ := hG; go_simp; first | done | with_reducible rfl) ?_; simp only [Act.put, List.setIfInBounds_toArray, List.set_cons_zero, List.set_cons_succ])
        refine rv_nil (fun w hG hH => ?_)
        obtain ⟨n, rfl⟩ := hG
        clear hH
        go_wp2_with fail
        go_ret
        exact ⟨ret_eq (by rw [Hr.out]; rfl), K.drewN _⟩
    · cases ba
      · go_enter Tryd.func62, Tryd.ntmps62
        go_wp2_with fail
        rw [← HB0.out]
        refine wp_region_rv 8 GQ (kindV []) (by kernel_rfl) (by kernel_rfl) GQ.trans GQ.refl (GQ.start _) (kindV_mono _) ?_
        simp only [List.take_succ_cons, List.take_zero, List.drop_succ_cons, List.drop_zero]
        iterate 8 (refine rv_det (by kernel_rfl) rfl (by intro w hG hH; obtain ⟨n, rfl⟩ := hG; go_simp; first | done | with_reducible rfl) ?_; simp only [Act.put, List.setIfInBounds_toArray, List.set_cons_zero, List.set_cons_succ])
        refine rv_nil (fun w hG hH => ?_)
        obtain ⟨n, rfl⟩ := hG
        clear hH
        go_wp2_with fail
        go_ret
        exact ⟨ret_eq (by rw [Hr.out]; rfl), K.drewN _⟩
      · go_enter Tryd.func62, Tryd.ntmps62
        go_wp2_with fail
        rw [← HB0.out]
        refine wp_region_rv 8 GQ (kindV []) (by kernel_rfl) (by kernel_rfl) GQ.trans GQ.refl (GQ.start _) (kindV_mono _) ?_
        simp only [List.take_succ_cons, List.take_zero, List.drop_succ_cons, List.drop_zero]
        iterate 8 (refine rv_det (by kernel_rfl) rfl (by intro w hG hH; obtain ⟨n, rfl⟩ := hG; go_simp; first | done | with_reducible rfl) ?_; simp only [Act.put, List.setIfInBounds_toArray, List.set_cons_zero, List.set_cons_succ])
        refine rv_nil (fun w hG hH => ?_)
        obtain ⟨n, rfl⟩ := hG
        clear hH
        go_wp2_with fail
        go_ret
        exact ⟨ret_eq (by rw [Hr.out]; rfl), K.drewN _⟩

set_option maxRecDepth 100000 in
set_option maxHeartbeats 4000000 in
theorem fields_31 (at_ n : Int) (s : ByteArray) (la : Option Addr) (ll lc : Nat) (w : World) (_hs : s.size ≤ 9223372036854775807) (_hn2 : n ≤ 9223372036854775807) :
    Calls Tryd.prog 62 #[.agg #[.int .u8 31, .int .i64 at_, .int .i64 n, .string s, .slice la ll lc]] w fun e w' => e = .returned (.bool (fieldsB 31 at_ n s)) ∧ KB F0 w w' := by
  obtain ⟨w0, rfl⟩ : ∃ w0, w0 = w := ⟨_, rfl⟩
  have Hr : Hid (fieldsB 31 at_ n s = (emptyB s && (n == 0) && decide (0 ≤ at_) && true && true)) := Lib.hid (by
    show (emptyB s && (decide ((0 : Int) ≤ n) && decide (n ≤ (0 : Int))) && decide (0 ≤ at_) && true && true) = _
    rw [eq00])
  obtain ⟨B0, hB0⟩ : ∃ B0, B0 = (w0.alloc (.cells #[.int .u8 31, .int .i64 at_, .int .i64 n, .string s, .slice la ll lc] 25)) := ⟨_, rfl⟩
  have K : KB F0 w0 B0 := by subst hB0; exact (KB.refl _ _).alloc _
  have c0 : B0.cell? ⟨w0.heap.size, 0, none⟩ = some (.int .u8 31) := by subst hB0; exact new_cell _ _ _ 0
  have c1 : B0.cell? ⟨w0.heap.size, 1, none⟩ = some (.int .i64 at_) := by subst hB0; exact new_cell _ _ _ 1
  have c2 : B0.cell? ⟨w0.heap.size, 2, none⟩ = some (.int .i64 n) := by subst hB0; exact new_cell _ _ _ 2
  have c3 : B0.cell? ⟨w0.heap.size, 3, none⟩ = some (.string s) := by subst hB0; exact new_cell _ _ _ 3
  have HB0 := Lib.hid hB0
  clear hB0
  have tE : s.toList.isEmpty = emptyB s := rfl
  generalize emptyB s = bE at tE Hr
  obtain ⟨ba, hba⟩ : ∃ b, decide ((0 : Int) ≤ at_) = b := ⟨_, rfl⟩
  rw [hba] at Hr
  obtain ⟨q0, hq0⟩ : ∃ b, (n == 0) = b := ⟨_, rfl⟩
  rw [hq0] at Hr
  clear _hs _hn2
  cases bE
  · go_enter Tryd.func62, Tryd.ntmps62
    go_wp2_with fail
    rw [← HB0.out]
    refine wp_region_rv 8 GQ (kindV []) (by kernel_rfl) (by kernel_rfl) GQ.trans GQ.refl (GQ.start _) (kindV_mono _) ?_
    simp only [List.take_succ_cons, List.take_zero, List.drop_succ_cons, List.drop_zero]
    iterate 8 (refine rv_det (by kernel_rfl) rfl (by intro w hG hH; obtain ⟨n, rfl⟩ := hG; go_simp; first | done | with_reducible rfl) ?_; simp only [Act.put, List.setIfInBounds_toArray, List.set_cons_zero, List.set_cons_succ])
    refine rv_nil (fun w hG hH => ?_)
    obtain ⟨n, rfl⟩ := hG
    clear hH
    go_wp2_with fail
    go_ret
    exact ⟨ret_eq (by rw [Hr.out]; rfl), K.drewN _⟩
  · cases q0
    · cases ba
      · go_enter Tryd.func62, Tryd.ntmps62
        go_wp2_with fail
        rw [← HB0.out]
        refine wp_region_rv 8 GQ (kindV []) (by kernel_rfl) (by kernel_rfl) GQ.trans GQ.refl (GQ.start _) (kindV_mono _) ?_
        simp only [List.take_succ_cons, List.take_zero, List.drop_succ_cons, List.drop_zero]
        iterate 8 (refine rv_det (by kernel_rfl) rfl (by intro w hG hH; obtain ⟨n, rfl⟩ := hG; go_simp; first | done | with_reducible rfl) ?_; simp only [Act.put, List.setIfInBounds_toArray, List.set_cons_zero, List.set_cons_succ])
        refine rv_nil (fun w hG hH => ?_)
        obtain ⟨n, rfl⟩ := hG
        clear hH
        go_wp2_with fail
        go_ret
        exact ⟨ret_eq (by rw [Hr.out]; rfl), K.drewN _⟩
      · go_enter Tryd.func62, Tryd.ntmps62
        go_wp2_with fail
        rw [← HB0.out]
        refine wp_region_rv 8 GQ (kindV []) (by kernel_rfl) (by kernel_rfl) GQ.trans GQ.refl (GQ.start _) (kindV_mono _) ?_
        simp only [List.take_succ_cons, List.take_zero, List.drop_succ_cons, List.drop_zero]
        iterate 8 (refine rv_det (by kernel_rfl) rfl (by intro w hG hH; obtain ⟨n, rfl⟩ := hG; go_simp; first | done | with_reducible rfl) ?_; simp only [Act.put, List.setIfInBounds_toArray, List.set_cons_zero, List.set_cons_succ])
        refine rv_nil (fun w hG hH => ?_)
        obtain ⟨n, rfl⟩ := hG
        clear hH
        go_wp2_with fail
        go_ret
        exact ⟨ret_eq (by rw [Hr.out]; rfl), K.drewN _⟩
    · cases ba
      · go_enter Tryd.func62, Tryd.ntmps62
        go_wp2_with fail
        rw [← HB0.out]
        refine wp_region_rv 8 GQ (kindV []) (by kernel_rfl) (by kernel_rfl) GQ.trans GQ.refl (GQ.start _) (kindV_mono _) ?_
        simp only [List.take_succ_cons, List.take_zero, List.drop_succ_cons, List.drop_zero]
        iterate 8 (refine rv_det (by kernel_rfl) rfl (by intro w hG hH; obtain ⟨n, rfl⟩ := hG; go_simp; first | done | with_reducible rfl) ?_; simp only [Act.put, List.setIfInBounds_toArray, List.set_cons_zero, List.set_cons_succ])
        refine rv_nil (fun w hG hH => ?_)
        obtain ⟨n, rfl⟩ := hG
        clear hH
        go_wp2_with fail
        go_ret
        exact ⟨ret_eq (by rw [Hr.out]; rfl), K.drewN _⟩
      · go_enter Tryd.func62, Tryd.ntmps62
        go_wp2_with fail
        rw [← HB0.out]
        refine wp_region_rv 8 GQ (kindV []) (by kernel_rfl) (by kernel_rfl) GQ.trans GQ.refl (GQ.start _) (kindV_mono _) ?_
        simp only [List.take_succ_cons, List.take_zero, List.drop_succ_cons, List.drop_zero]
        iterate 8 (refine rv_det (by kernel_rfl) rfl (by intro w hG hH; obtain ⟨n, rfl⟩ := hG; go_simp; first | done | with_reducible rfl) ?_; simp only [Act.put, List.setIfInBounds_toArray, List.set_cons_zero, List.set_cons_succ])
        refine rv_nil (fun w hG hH => ?_)
        obtain ⟨n, rfl⟩ := hG
        clear hH
        go_wp2_with fail
        go_ret
        exact ⟨ret_eq (by rw [Hr.out]; rfl), K.drewN _⟩

set_option maxRecDepth 100000 in
set_option maxHeartbeats 4000000 in
theorem fields_32 (at_ n : Int) (s : ByteArray) (la : Option Addr) (ll lc : Nat) (w : World) (_hs : s.size ≤ 9223372036854775807) (_hn2 : n ≤ 9223372036854775807) :
    Calls Tryd.prog 62 #[.agg #[.int .u8 32, .int .i64 at_, .int .i64 n, .string s, .slice la ll lc]] w fun e w' => e = .returned (.bool (fieldsB 32 at_ n s)) ∧ KB F0 w w' := by
  obtain ⟨w0, rfl⟩ : ∃ w0, w0 = w := ⟨_, rfl⟩
  have Hr : Hid (fieldsB 32 at_ n s = (sgB s && (n == 0) && decide (0 ≤ at_) && true && true)) := Lib.hid (by
    show (sgB s && (decide ((0 : Int) ≤ n) && decide (n ≤ (0 : Int))) && decide (0 ≤ at_) && true && true) = _
    rw [eq00])
  obtain ⟨B0, hB0⟩ : ∃ B0, B0 = (w0.alloc (.cells #[.int .u8 32, .int .i64 at_, .int .i64 n, .string s, .slice la ll lc] 25)) := ⟨_, rfl⟩
  have K : KB F0 w0 B0 := by subst hB0; exact (KB.refl _ _).alloc _
  have c0 : B0.cell? ⟨w0.heap.size, 0, none⟩ = some (.int .u8 32) := by subst hB0; exact new_cell _ _ _ 0
  have c1 : B0.cell? ⟨w0.heap.size, 1, none⟩ = some (.int .i64 at_) := by subst hB0; exact new_cell _ _ _ 1
  have c2 : B0.cell? ⟨w0.heap.size, 2, none⟩ = some (.int .i64 n) := by subst hB0; exact new_cell _ _ _ 2
  have c3 : B0.cell? ⟨w0.heap.size, 3, none⟩ = some (.string s) := by subst hB0; exact new_cell _ _ _ 3
  have HB0 := Lib.hid hB0
  clear hB0
  have HS := Lib.hid (fun W => csign_any s W)
  generalize sgB s = bN at HS Hr
  obtain ⟨ba, hba⟩ : ∃ b, decide ((0 : Int) ≤ at_) = b := ⟨_, rfl⟩
  rw [hba] at Hr
  obtain ⟨q0, hq0⟩ : ∃ b, (n == 0) = b := ⟨_, rfl⟩
  rw [hq0] at Hr
  clear _hs _hn2
  cases bN
  · go_enter Tryd.func62, Tryd.ntmps62
    go_wp2_with fail
    rw [← HB0.out]
    refine wp_region_rv 8 GQ (kindV []) (by kernel_rfl) (by kernel_rfl) GQ.trans GQ.refl (GQ.start _) (kindV_mono _) ?_
    simp only [List.take_succ_cons, List.take_zero, List.drop_succ_cons, List.drop_zero]
    iterate 8 (refine rv_det (by kernel_rfl) rfl (by intro w hG hH; obtain ⟨n, rfl⟩ := hG; go_simp; first | done | with_reducible rfl) ?_; simp only [Act.put, List.setIfInBounds_toArray, List.set_cons_zero, List.set_cons_succ])
    refine rv_nil (fun w hG hH => ?_)
    obtain ⟨n, rfl⟩ := hG
    clear hH
    go_wp2_with fail
    refine (HS.out _).mono ?_
    rintro e _ ⟨rfl, rfl⟩
    go_wp2_with fail
    go_ret
    exact ⟨ret_eq (by rw [Hr.out]; rfl), K.drewN _⟩
  · cases q0
    · cases ba
      · go_enter Tryd.func62, Tryd.ntmps62
        go_wp2_with fail
        rw [← HB0.out]
        refine wp_region_rv 8 GQ (kindV []) (by kernel_rfl) (by kernel_rfl) GQ.trans GQ.refl (GQ.start _) (kindV_mono _) ?_
        simp only [List.take_succ_cons, List.take_zero, List.drop_succ_cons, List.drop_zero]
        iterate 8 (refine rv_det (by kernel_rfl) rfl (by intro w hG hH; obtain ⟨n, rfl⟩ := hG; go_simp; first | done | with_reducible rfl) ?_; simp only [Act.put, List.setIfInBounds_toArray, List.set_cons_zero, List.set_cons_succ])
        refine rv_nil (fun w hG hH => ?_)
        obtain ⟨n, rfl⟩ := hG
        clear hH
        go_wp2_with fail
        refine (HS.out _).mono ?_
        rintro e _ ⟨rfl, rfl⟩
        go_wp2_with fail
        go_ret
        exact ⟨ret_eq (by rw [Hr.out]; rfl), K.drewN _⟩
      · go_enter Tryd.func62, Tryd.ntmps62
        go_wp2_with fail
        rw [← HB0.out]
        refine wp_region_rv 8 GQ (kindV []) (by kernel_rfl) (by kernel_rfl) GQ.trans GQ.refl (GQ.start _) (kindV_mono _) ?_
        simp only [List.take_succ_cons, List.take_zero, List.drop_succ_cons, List.drop_zero]
        iterate 8 (refine rv_det (by kernel_rfl) rfl (by intro w hG hH; obtain ⟨n, rfl⟩ := hG; go_simp; first | done | with_reducible rfl) ?_; simp only [Act.put, List.setIfInBounds_toArray, List.set_cons_zero, List.set_cons_succ])
        refine rv_nil (fun w hG hH => ?_)
        obtain ⟨n, rfl⟩ := hG
        clear hH
        go_wp2_with fail
        refine (HS.out _).mono ?_
        rintro e _ ⟨rfl, rfl⟩
        go_wp2_with fail
        go_ret
        exact ⟨ret_eq (by rw [Hr.out]; rfl), K.drewN _⟩
    · cases ba
      · go_enter Tryd.func62, Tryd.ntmps62
        go_wp2_with fail
        rw [← HB0.out]
        refine wp_region_rv 8 GQ (kindV []) (by kernel_rfl) (by kernel_rfl) GQ.trans GQ.refl (GQ.start _) (kindV_mono _) ?_
        simp only [List.take_succ_cons, List.take_zero, List.drop_succ_cons, List.drop_zero]
        iterate 8 (refine rv_det (by kernel_rfl) rfl (by intro w hG hH; obtain ⟨n, rfl⟩ := hG; go_simp; first | done | with_reducible rfl) ?_; simp only [Act.put, List.setIfInBounds_toArray, List.set_cons_zero, List.set_cons_succ])
        refine rv_nil (fun w hG hH => ?_)
        obtain ⟨n, rfl⟩ := hG
        clear hH
        go_wp2_with fail
        refine (HS.out _).mono ?_
        rintro e _ ⟨rfl, rfl⟩
        go_wp2_with fail
        go_ret
        exact ⟨ret_eq (by rw [Hr.out]; rfl), K.drewN _⟩
      · go_enter Tryd.func62, Tryd.ntmps62
        go_wp2_with fail
        rw [← HB0.out]
        refine wp_region_rv 8 GQ (kindV []) (by kernel_rfl) (by kernel_rfl) GQ.trans GQ.refl (GQ.start _) (kindV_mono _) ?_
        simp only [List.take_succ_cons, List.take_zero, List.drop_succ_cons, List.drop_zero]
        iterate 8 (refine rv_det (by kernel_rfl) rfl (by intro w hG hH; obtain ⟨n, rfl⟩ := hG; go_simp; first | done | with_reducible rfl) ?_; simp only [Act.put, List.setIfInBounds_toArray, List.set_cons_zero, List.set_cons_succ])
        refine rv_nil (fun w hG hH => ?_)
        obtain ⟨n, rfl⟩ := hG
        clear hH
        go_wp2_with fail
        refine (HS.out _).mono ?_
        rintro e _ ⟨rfl, rfl⟩
        go_wp2_with fail
        go_ret
        exact ⟨ret_eq (by rw [Hr.out]; rfl), K.drewN _⟩

set_option maxRecDepth 100000 in
set_option maxHeartbeats 4000000 in
theorem fields_33 (at_ n : Int) (s : ByteArray) (la : Option Addr) (ll lc : Nat) (w : World) (hs : s.size ≤ 9223372036854775807) (_hn2 : n ≤ 9223372036854775807) :
    Calls Tryd.prog 62 #[.agg #[.int .u8 33, .int .i64 at_, .int .i64 n, .string s, .slice la ll lc]] w fun e w' => e = .returned (.bool (fieldsB 33 at_ n s)) ∧ KB F0 w w' := by
  obtain ⟨w0, rfl⟩ : ∃ w0, w0 = w := ⟨_, rfl⟩
  have Hr : Hid (fieldsB 33 at_ n s = (nameB s && (n == 0) && decide (0 ≤ at_) && true && true)) := Lib.hid (by
    show (nameB s && (decide ((0 : Int) ≤ n) && decide (n ≤ (0 : Int))) && decide (0 ≤ at_) && true && true) = _
    rw [eq00])
  obtain ⟨B0, hB0⟩ : ∃ B0, B0 = (w0.alloc (.cells #[.int .u8 33, .int .i64 at_, .int .i64 n, .string s, .slice la ll lc] 25)) := ⟨_, rfl⟩
  have K : KB F0 w0 B0 := by subst hB0; exact (KB.refl _ _).alloc _
  have c0 : B0.cell? ⟨w0.heap.size, 0, none⟩ = some (.int .u8 33) := by subst hB0; exact new_cell _ _ _ 0
  have c1 : B0.cell? ⟨w0.heap.size, 1, none⟩ = some (.int .i64 at_) := by subst hB0; exact new_cell _ _ _ 1
  have c2 : B0.cell? ⟨w0.heap.size, 2, none⟩ = some (.int .i64 n) := by subst hB0; exact new_cell _ _ _ 2
  have c3 : B0.cell? ⟨w0.heap.size, 3, none⟩ = some (.string s) := by subst hB0; exact new_cell _ _ _ 3
  have HB0 := Lib.hid hB0
  clear hB0
  have HS := Lib.hid (fun W => cname_any s W hs)
  generalize nameB s = bN at HS Hr
  obtain ⟨ba, hba⟩ : ∃ b, decide ((0 : Int) ≤ at_) = b := ⟨_, rfl⟩
  rw [hba] at Hr
  obtain ⟨q0, hq0⟩ : ∃ b, (n == 0) = b := ⟨_, rfl⟩
  rw [hq0] at Hr
  clear hs _hn2
  cases bN
  · go_enter Tryd.func62, Tryd.ntmps62
    go_wp2_with fail
    rw [← HB0.out]
    refine wp_region_rv 8 GQ (kindV []) (by kernel_rfl) (by kernel_rfl) GQ.trans GQ.refl (GQ.start _) (kindV_mono _) ?_
    simp only [List.take_succ_cons, List.take_zero, List.drop_succ_cons, List.drop_zero]
    iterate 8 (refine rv_det (by kernel_rfl) rfl (by intro w hG hH; obtain ⟨n, rfl⟩ := hG; go_simp; first | done | with_reducible rfl) ?_; simp only [Act.put, List.setIfInBounds_toArray, List.set_cons_zero, List.set_cons_succ])
    refine rv_nil (fun w hG hH => ?_)
    obtain ⟨n, rfl⟩ := hG
    clear hH
    go_wp2_with fail
    refine (HS.out _).mono ?_
    rintro e _ ⟨rfl, rfl⟩
    go_wp2_with fail
    go_ret
    exact ⟨ret_eq (by rw [Hr.out]; rfl), K.drewN _⟩
  · cases q0
    · cases ba
      · go_enter Tryd.func62, Tryd.ntmps62
        go_wp2_with fail
        rw [← HB0.out]
        refine wp_region_rv 8 GQ (kindV []) (by kernel_rfl) (by kernel_rfl) GQ.trans GQ.refl (GQ.start _) (kindV_mono _) ?_
        simp only [List.take_succ_cons, List.take_zero, List.drop_succ_cons, List.drop_zero]
        iterate 8 (refine rv_det (by kernel_rfl) rfl (by intro w hG hH; obtain ⟨n, rfl⟩ := hG; go_simp; first | done | with_reducible rfl) ?_; simp only [Act.put, List.setIfInBounds_toArray, List.set_cons_zero, List.set_cons_succ])
        refine rv_nil (fun w hG hH => ?_)
        obtain ⟨n, rfl⟩ := hG
        clear hH
        go_wp2_with fail
        refine (HS.out _).mono ?_
        rintro e _ ⟨rfl, rfl⟩
        go_wp2_with fail
        go_ret
        exact ⟨ret_eq (by rw [Hr.out]; rfl), K.drewN _⟩
      · go_enter Tryd.func62, Tryd.ntmps62
        go_wp2_with fail
        rw [← HB0.out]
        refine wp_region_rv 8 GQ (kindV []) (by kernel_rfl) (by kernel_rfl) GQ.trans GQ.refl (GQ.start _) (kindV_mono _) ?_
        simp only [List.take_succ_cons, List.take_zero, List.drop_succ_cons, List.drop_zero]
        iterate 8 (refine rv_det (by kernel_rfl) rfl (by intro w hG hH; obtain ⟨n, rfl⟩ := hG; go_simp; first | done | with_reducible rfl) ?_; simp only [Act.put, List.setIfInBounds_toArray, List.set_cons_zero, List.set_cons_succ])
        refine rv_nil (fun w hG hH => ?_)
        obtain ⟨n, rfl⟩ := hG
        clear hH
        go_wp2_with fail
        refine (HS.out _).mono ?_
        rintro e _ ⟨rfl, rfl⟩
        go_wp2_with fail
        go_ret
        exact ⟨ret_eq (by rw [Hr.out]; rfl), K.drewN _⟩
    · cases ba
      · go_enter Tryd.func62, Tryd.ntmps62
        go_wp2_with fail
        rw [← HB0.out]
        refine wp_region_rv 8 GQ (kindV []) (by kernel_rfl) (by kernel_rfl) GQ.trans GQ.refl (GQ.start _) (kindV_mono _) ?_
        simp only [List.take_succ_cons, List.take_zero, List.drop_succ_cons, List.drop_zero]
        iterate 8 (refine rv_det (by kernel_rfl) rfl (by intro w hG hH; obtain ⟨n, rfl⟩ := hG; go_simp; first | done | with_reducible rfl) ?_; simp only [Act.put, List.setIfInBounds_toArray, List.set_cons_zero, List.set_cons_succ])
        refine rv_nil (fun w hG hH => ?_)
        obtain ⟨n, rfl⟩ := hG
        clear hH
        go_wp2_with fail
        refine (HS.out _).mono ?_
        rintro e _ ⟨rfl, rfl⟩
        go_wp2_with fail
        go_ret
        exact ⟨ret_eq (by rw [Hr.out]; rfl), K.drewN _⟩
      · go_enter Tryd.func62, Tryd.ntmps62
        go_wp2_with fail
        rw [← HB0.out]
        refine wp_region_rv 8 GQ (kindV []) (by kernel_rfl) (by kernel_rfl) GQ.trans GQ.refl (GQ.start _) (kindV_mono _) ?_
        simp only [List.take_succ_cons, List.take_zero, List.drop_succ_cons, List.drop_zero]
        iterate 8 (refine rv_det (by kernel_rfl) rfl (by intro w hG hH; obtain ⟨n, rfl⟩ := hG; go_simp; first | done | with_reducible rfl) ?_; simp only [Act.put, List.setIfInBounds_toArray, List.set_cons_zero, List.set_cons_succ])
        refine rv_nil (fun w hG hH => ?_)
        obtain ⟨n, rfl⟩ := hG
        clear hH
        go_wp2_with fail
        refine (HS.out _).mono ?_
        rintro e _ ⟨rfl, rfl⟩
        go_wp2_with fail
        go_ret
        exact ⟨ret_eq (by rw [Hr.out]; rfl), K.drewN _⟩

set_option maxRecDepth 100000 in
set_option maxHeartbeats 4000000 in
theorem fields_34 (at_ n : Int) (s : ByteArray) (la : Option Addr) (ll lc : Nat) (w : World) (hs : s.size ≤ 9223372036854775807) (_hn2 : n ≤ 9223372036854775807) :
    Calls Tryd.prog 62 #[.agg #[.int .u8 34, .int .i64 at_, .int .i64 n, .string s, .slice la ll lc]] w fun e w' => e = .returned (.bool (fieldsB 34 at_ n s)) ∧ KB F0 w w' := by
  obtain ⟨w0, rfl⟩ : ∃ w0, w0 = w := ⟨_, rfl⟩
  have Hr : Hid (fieldsB 34 at_ n s = (typeNameB s && (n == 0) && decide (0 ≤ at_) && true && true)) := Lib.hid (by
    show (typeNameB s && (decide ((0 : Int) ≤ n) && decide (n ≤ (0 : Int))) && decide (0 ≤ at_) && true && true) = _
    rw [eq00])
  obtain ⟨B0, hB0⟩ : ∃ B0, B0 = (w0.alloc (.cells #[.int .u8 34, .int .i64 at_, .int .i64 n, .string s, .slice la ll lc] 25)) := ⟨_, rfl⟩
  have K : KB F0 w0 B0 := by subst hB0; exact (KB.refl _ _).alloc _
  have c0 : B0.cell? ⟨w0.heap.size, 0, none⟩ = some (.int .u8 34) := by subst hB0; exact new_cell _ _ _ 0
  have c1 : B0.cell? ⟨w0.heap.size, 1, none⟩ = some (.int .i64 at_) := by subst hB0; exact new_cell _ _ _ 1
  have c2 : B0.cell? ⟨w0.heap.size, 2, none⟩ = some (.int .i64 n) := by subst hB0; exact new_cell _ _ _ 2
  have c3 : B0.cell? ⟨w0.heap.size, 3, none⟩ = some (.string s) := by subst hB0; exact new_cell _ _ _ 3
  have HB0 := Lib.hid hB0
  clear hB0
  have HS := Lib.hid (fun W => ctypeName_any s W hs)
  generalize typeNameB s = bN at HS Hr
  obtain ⟨ba, hba⟩ : ∃ b, decide ((0 : Int) ≤ at_) = b := ⟨_, rfl⟩
  rw [hba] at Hr
  obtain ⟨q0, hq0⟩ : ∃ b, (n == 0) = b := ⟨_, rfl⟩
  rw [hq0] at Hr
  clear hs _hn2
  cases bN
  · go_enter Tryd.func62, Tryd.ntmps62
    go_wp2_with fail
    rw [← HB0.out]
    refine wp_region_rv 8 GQ (kindV []) (by kernel_rfl) (by kernel_rfl) GQ.trans GQ.refl (GQ.start _) (kindV_mono _) ?_
    simp only [List.take_succ_cons, List.take_zero, List.drop_succ_cons, List.drop_zero]
    iterate 8 (refine rv_det (by kernel_rfl) rfl (by intro w hG hH; obtain ⟨n, rfl⟩ := hG; go_simp; first | done | with_reducible rfl) ?_; simp only [Act.put, List.setIfInBounds_toArray, List.set_cons_zero, List.set_cons_succ])
    refine rv_nil (fun w hG hH => ?_)
    obtain ⟨n, rfl⟩ := hG
    clear hH
    go_wp2_with fail
    refine (HS.out _).mono ?_
    rintro e _ ⟨rfl, rfl⟩
    go_wp2_with fail
    go_ret
    exact ⟨ret_eq (by rw [Hr.out]; rfl), K.drewN _⟩
  · cases q0
    · cases ba
      · go_enter Tryd.func62, Tryd.ntmps62
        go_wp2_with fail
        rw [← HB0.out]
        refine wp_region_rv 8 GQ (kindV []) (by kernel_rfl) (by kernel_rfl) GQ.trans GQ.refl (GQ.start _) (kindV_mono _) ?_
        simp only [List.take_succ_cons, List.take_zero, List.drop_succ_cons, List.drop_zero]
        iterate 8 (refine rv_det (by kernel_rfl) rfl (by intro w hG hH; obtain ⟨n, rfl⟩ := hG; go_simp; first | done | with_reducible rfl) ?_; simp only [Act.put, List.setIfInBounds_toArray, List.set_cons_zero, List.set_cons_succ])
        refine rv_nil (fun w hG hH => ?_)
        obtain ⟨n, rfl⟩ := hG
        clear hH
        go_wp2_with fail
        refine (HS.out _).mono ?_
        rintro e _ ⟨rfl, rfl⟩
        go_wp2_with fail
        go_ret
        exact ⟨ret_eq (by rw [Hr.out]; rfl), K.drewN _⟩
      · go_enter Tryd.func62, Tryd.ntmps62
        go_wp2_with fail
        rw [← HB0.out]
        refine wp_region_rv 8 GQ (kindV []) (by kernel_rfl) (by kernel_rfl) GQ.trans GQ.refl (GQ.start _) (kindV_mono _) ?_
        simp only [List.take_succ_cons, List.take_zero, List.drop_succ_cons, List.drop_zero]
        iterate 8 (refine rv_det (by kernel_rfl) rfl (by intro w hG hH; obtain ⟨n, rfl⟩ := hG; go_simp; first | done | with_reducible rfl) ?_; simp only [Act.put, List.setIfInBounds_toArray, List.set_cons_zero, List.set_cons_succ])
        refine rv_nil (fun w hG hH => ?_)
        obtain ⟨n, rfl⟩ := hG
        clear hH
        go_wp2_with fail
        refine (HS.out _).mono ?_
        rintro e _ ⟨rfl, rfl⟩
        go_wp2_with fail
        go_ret
        exact ⟨ret_eq (by rw [Hr.out]; rfl), K.drewN _⟩
    · cases ba
      · go_enter Tryd.func62, Tryd.ntmps62
        go_wp2_with fail
        rw [← HB0.out]
        refine wp_region_rv 8 GQ (kindV []) (by kernel_rfl) (by kernel_rfl) GQ.trans GQ.refl (GQ.start _) (kindV_mono _) ?_
        simp only [List.take_succ_cons, List.take_zero, List.drop_succ_cons, List.drop_zero]
        iterate 8 (refine rv_det (by kernel_rfl) rfl (by intro w hG hH; obtain ⟨n, rfl⟩ := hG; go_simp; first | done | with_reducible rfl) ?_; simp only [Act.put, List.setIfInBounds_toArray, List.set_cons_zero, List.set_cons_succ])
        refine rv_nil (fun w hG hH => ?_)
        obtain ⟨n, rfl⟩ := hG
        clear hH
        go_wp2_with fail
        refine (HS.out _).mono ?_
        rintro e _ ⟨rfl, rfl⟩
        go_wp2_with fail
        go_ret
        exact ⟨ret_eq (by rw [Hr.out]; rfl), K.drewN _⟩
      · go_enter Tryd.func62, Tryd.ntmps62
        go_wp2_with fail
        rw [← HB0.out]
        refine wp_region_rv 8 GQ (kindV []) (by kernel_rfl) (by kernel_rfl) GQ.trans GQ.refl (GQ.start _) (kindV_mono _) ?_
        simp only [List.take_succ_cons, List.take_zero, List.drop_succ_cons, List.drop_zero]
        iterate 8 (refine rv_det (by kernel_rfl) rfl (by intro w hG hH; obtain ⟨n, rfl⟩ := hG; go_simp; first | done | with_reducible rfl) ?_; simp only [Act.put, List.setIfInBounds_toArray, List.set_cons_zero, List.set_cons_succ])
        refine rv_nil (fun w hG hH => ?_)
        obtain ⟨n, rfl⟩ := hG
        clear hH
        go_wp2_with fail
        refine (HS.out _).mono ?_
        rintro e _ ⟨rfl, rfl⟩
        go_wp2_with fail
        go_ret
        exact ⟨ret_eq (by rw [Hr.out]; rfl), K.drewN _⟩

set_option maxRecDepth 100000 in
set_option maxHeartbeats 4000000 in
theorem fields_35 (at_ n : Int) (s : ByteArray) (la : Option Addr) (ll lc : Nat) (w : World) (hs : s.size ≤ 9223372036854775807) (_hn2 : n ≤ 9223372036854775807) :
    Calls Tryd.prog 62 #[.agg #[.int .u8 35, .int .i64 at_, .int .i64 n, .string s, .slice la ll lc]] w fun e w' => e = .returned (.bool (fieldsB 35 at_ n s)) ∧ KB F0 w w' := by
  obtain ⟨w0, rfl⟩ : ∃ w0, w0 = w := ⟨_, rfl⟩
  have Hr : Hid (fieldsB 35 at_ n s = (nameB s && (n == 0) && decide (0 ≤ at_) && true && true)) := Lib.hid (by
    show (nameB s && (decide ((0 : Int) ≤ n) && decide (n ≤ (0 : Int))) && decide (0 ≤ at_) && true && true) = _
    rw [eq00])
  obtain ⟨B0, hB0⟩ : ∃ B0, B0 = (w0.alloc (.cells #[.int .u8 35, .int .i64 at_, .int .i64 n, .string s, .slice la ll lc] 25)) := ⟨_, rfl⟩
  have K : KB F0 w0 B0 := by subst hB0; exact (KB.refl _ _).alloc _
  have c0 : B0.cell? ⟨w0.heap.size, 0, none⟩ = some (.int .u8 35) := by subst hB0; exact new_cell _ _ _ 0
  have c1 : B0.cell? ⟨w0.heap.size, 1, none⟩ = some (.int .i64 at_) := by subst hB0; exact new_cell _ _ _ 1
  have c2 : B0.cell? ⟨w0.heap.size, 2, none⟩ = some (.int .i64 n) := by subst hB0; exact new_cell _ _ _ 2
  have c3 : B0.cell? ⟨w0.heap.size, 3, none⟩ = some (.string s) := by subst hB0; exact new_cell _ _ _ 3
  have HB0 := Lib.hid hB0
  clear hB0
  have HS := Lib.hid (fun W => cname_any s W hs)
  generalize nameB s = bN at HS Hr
  obtain ⟨ba, hba⟩ : ∃ b, decide ((0 : Int) ≤ at_) = b := ⟨_, rfl⟩
  rw [hba] at Hr
  obtain ⟨q0, hq0⟩ : ∃ b, (n == 0) = b := ⟨_, rfl⟩
  rw [hq0] at Hr
  clear hs _hn2
  cases bN
  · go_enter Tryd.func62, Tryd.ntmps62
    go_wp2_with fail
    rw [← HB0.out]
    refine wp_region_rv 8 GQ (kindV []) (by kernel_rfl) (by kernel_rfl) GQ.trans GQ.refl (GQ.start _) (kindV_mono _) ?_
    simp only [List.take_succ_cons, List.take_zero, List.drop_succ_cons, List.drop_zero]
    iterate 8 (refine rv_det (by kernel_rfl) rfl (by intro w hG hH; obtain ⟨n, rfl⟩ := hG; go_simp; first | done | with_reducible rfl) ?_; simp only [Act.put, List.setIfInBounds_toArray, List.set_cons_zero, List.set_cons_succ])
    refine rv_nil (fun w hG hH => ?_)
    obtain ⟨n, rfl⟩ := hG
    clear hH
    go_wp2_with fail
    refine (HS.out _).mono ?_
    rintro e _ ⟨rfl, rfl⟩
    go_wp2_with fail
    go_ret
    exact ⟨ret_eq (by rw [Hr.out]; rfl), K.drewN _⟩
  · cases q0
    · cases ba
      · go_enter Tryd.func62, Tryd.ntmps62
        go_wp2_with fail
        rw [← HB0.out]
        refine wp_region_rv 8 GQ (kindV []) (by kernel_rfl) (by kernel_rfl) GQ.trans GQ.refl (GQ.start _) (kindV_mono _) ?_
        simp only [List.take_succ_cons, List.take_zero, List.drop_succ_cons, List.drop_zero]
        iterate 8 (refine rv_det (by kernel_rfl) rfl (by intro w hG hH; obtain ⟨n, rfl⟩ := hG; go_simp; first | done | with_reducible rfl) ?_; simp only [Act.put, List.setIfInBounds_toArray, List.set_cons_zero, List.set_cons_succ])
        refine rv_nil (fun w hG hH => ?_)
        obtain ⟨n, rfl⟩ := hG
        clear hH
        go_wp2_with fail
        refine (HS.out _).mono ?_
        rintro e _ ⟨rfl, rfl⟩
        go_wp2_with fail
        go_ret
        exact ⟨ret_eq (by rw [Hr.out]; rfl), K.drewN _⟩
      · go_enter Tryd.func62, Tryd.ntmps62
        go_wp2_with fail
        rw [← HB0.out]
        refine wp_region_rv 8 GQ (kindV []) (by kernel_rfl) (by kernel_rfl) GQ.trans GQ.refl (GQ.start _) (kindV_mono _) ?_
        simp only [List.take_succ_cons, List.take_zero, List.drop_succ_cons, List.drop_zero]
        iterate 8 (refine rv_det (by kernel_rfl) rfl (by intro w hG hH; obtain ⟨n, rfl⟩ := hG; go_simp; first | done | with_reducible rfl) ?_; simp only [Act.put, List.setIfInBounds_toArray, List.set_cons_zero, List.set_cons_succ])
        refine rv_nil (fun w hG hH => ?_)
        obtain ⟨n, rfl⟩ := hG
        clear hH
        go_wp2_with fail
        refine (HS.out _).mono ?_
        rintro e _ ⟨rfl, rfl⟩
        go_wp2_with fail
        go_ret
        exact ⟨ret_eq (by rw [Hr.out]; rfl), K.drewN _⟩
    · cases ba
      · go_enter Tryd.func62, Tryd.ntmps62
        go_wp2_with fail
        rw [← HB0.out]
        refine wp_region_rv 8 GQ (kindV []) (by kernel_rfl) (by kernel_rfl) GQ.trans GQ.refl (GQ.start _) (kindV_mono _) ?_
        simp only [List.take_succ_cons, List.take_zero, List.drop_succ_cons, List.drop_zero]
        iterate 8 (refine rv_det (by kernel_rfl) rfl (by intro w hG hH; obtain ⟨n, rfl⟩ := hG; go_simp; first | done | with_reducible rfl) ?_; simp only [Act.put, List.setIfInBounds_toArray, List.set_cons_zero, List.set_cons_succ])
        refine rv_nil (fun w hG hH => ?_)
        obtain ⟨n, rfl⟩ := hG
        clear hH
        go_wp2_with fail
        refine (HS.out _).mono ?_
        rintro e _ ⟨rfl, rfl⟩
        go_wp2_with fail
        go_ret
        exact ⟨ret_eq (by rw [Hr.out]; rfl), K.drewN _⟩
      · go_enter Tryd.func62, Tryd.ntmps62
        go_wp2_with fail
        rw [← HB0.out]
        refine wp_region_rv 8 GQ (kindV []) (by kernel_rfl) (by kernel_rfl) GQ.trans GQ.refl (GQ.start _) (kindV_mono _) ?_
        simp only [List.take_succ_cons, List.take_zero, List.drop_succ_cons, List.drop_zero]
        iterate 8 (refine rv_det (by kernel_rfl) rfl (by intro w hG hH; obtain ⟨n, rfl⟩ := hG; go_simp; first | done | with_reducible rfl) ?_; simp only [Act.put, List.setIfInBounds_toArray, List.set_cons_zero, List.set_cons_succ])
        refine rv_nil (fun w hG hH => ?_)
        obtain ⟨n, rfl⟩ := hG
        clear hH
        go_wp2_with fail
        refine (HS.out _).mono ?_
        rintro e _ ⟨rfl, rfl⟩
        go_wp2_with fail
        go_ret
        exact ⟨ret_eq (by rw [Hr.out]; rfl), K.drewN _⟩

set_option maxRecDepth 100000 in
set_option maxHeartbeats 4000000 in
theorem fields_36 (at_ n : Int) (s : ByteArray) (la : Option Addr) (ll lc : Nat) (w : World) (_hs : s.size ≤ 9223372036854775807) (_hn2 : n ≤ 9223372036854775807) :
    Calls Tryd.prog 62 #[.agg #[.int .u8 36, .int .i64 at_, .int .i64 n, .string s, .slice la ll lc]] w fun e w' => e = .returned (.bool (fieldsB 36 at_ n s)) ∧ KB F0 w w' := by
  obtain ⟨w0, rfl⟩ : ∃ w0, w0 = w := ⟨_, rfl⟩
  have Hr : Hid (fieldsB 36 at_ n s = (emptyB s && (n == 0) && decide (0 ≤ at_) && true && true)) := Lib.hid (by
    show (emptyB s && (decide ((0 : Int) ≤ n) && decide (n ≤ (0 : Int))) && decide (0 ≤ at_) && true && true) = _
    rw [eq00])
  obtain ⟨B0, hB0⟩ : ∃ B0, B0 = (w0.alloc (.cells #[.int .u8 36, .int .i64 at_, .int .i64 n, .string s, .slice la ll lc] 25)) := ⟨_, rfl⟩
  have K : KB F0 w0 B0 := by subst hB0; exact (KB.refl _ _).alloc _
  have c0 : B0.cell? ⟨w0.heap.size, 0, none⟩ = some (.int .u8 36) := by subst hB0; exact new_cell _ _ _ 0
  have c1 : B0.cell? ⟨w0.heap.size, 1, none⟩ = some (.int .i64 at_) := by subst hB0; exact new_cell _ _ _ 1
  have c2 : B0.cell? ⟨w0.heap.size, 2, none⟩ = some (.int .i64 n) := by subst hB0; exact new_cell _ _ _ 2
  have c3 : B0.cell? ⟨w0.heap.size, 3, none⟩ = some (.string s) := by subst hB0; exact new_cell _ _ _ 3
  have HB0 := Lib.hid hB0
  clear hB0
  have tE : s.toList.isEmpty = emptyB s := rfl
  generalize emptyB s = bE at tE Hr
  obtain ⟨ba, hba⟩ : ∃ b, decide ((0 : Int) ≤ at_) = b := ⟨_, rfl⟩
  rw [hba] at Hr
  obtain ⟨q0, hq0⟩ : ∃ b, (n == 0) = b := ⟨_, rfl⟩
  rw [hq0] at Hr
  clear _hs _hn2
  cases bE
  · go_enter Tryd.func62, Tryd.ntmps62
    go_wp2_with fail
    rw [← HB0.out]
    refine wp_region_rv 8 GQ (kindV []) (by kernel_rfl) (by kernel_rfl) GQ.trans GQ.refl (GQ.start _) (kindV_mono _) ?_
    simp only [List.take_succ_cons, List.take_zero, List.drop_succ_cons, List.drop_zero]
    iterate 8 (refine rv_det (by kernel_rfl) rfl (by intro w hG hH; obtain ⟨n, rfl⟩ := hG; go_simp; first | done | with_reducible rfl) ?_; simp only [Act.put, List.setIfInBounds_toArray, List.set_cons_zero, List.set_cons_succ])
    refine rv_nil (fun w hG hH => ?_)
    obtain ⟨n, rfl⟩ := hG
    clear hH
    go_wp2_with fail
    go_ret
    exact ⟨ret_eq (by rw [Hr.out]; rfl), K.drewN _⟩
  · cases q0
    · cases ba
      · go_enter Tryd.func62, Tryd.ntmps62
        go_wp2_with fail
        rw [← HB0.out]
        refine wp_region_rv 8 GQ (kindV []) (by kernel_rfl) (by kernel_rfl) GQ.trans GQ.refl (GQ.start _) (kindV_mono _) ?_
        simp only [List.take_succ_cons, List.take_zero, List.drop_succ_cons, List.drop_zero]
        iterate 8 (refine rv_det (by kernel_rfl) rfl (by intro w hG hH; obtain ⟨n, rfl⟩ := hG; go_simp; first | done | with_reducible rfl) ?_; simp only [Act.put, List.setIfInBounds_toArray, List.set_cons_zero, List.set_cons_succ])
        refine rv_nil (fun w hG hH => ?_)
        obtain ⟨n, rfl⟩ := hG
        clear hH
        go_wp2_with fail
        go_ret
        exact ⟨ret_eq (by rw [Hr.out]; rfl), K.drewN _⟩
      · go_enter Tryd.func62, Tryd.ntmps62
        go_wp2_with fail
        rw [← HB0.out]
        refine wp_region_rv 8 GQ (kindV []) (by kernel_rfl) (by kernel_rfl) GQ.trans GQ.refl (GQ.start _) (kindV_mono _) ?_
        simp only [List.take_succ_cons, List.take_zero, List.drop_succ_cons, List.drop_zero]
        iterate 8 (refine rv_det (by kernel_rfl) rfl (by intro w hG hH; obtain ⟨n, rfl⟩ := hG; go_simp; first | done | with_reducible rfl) ?_; simp only [Act.put, List.setIfInBounds_toArray, List.set_cons_zero, List.set_cons_succ])
        refine rv_nil (fun w hG hH => ?_)
        obtain ⟨n, rfl⟩ := hG
        clear hH
        go_wp2_with fail
        go_ret
        exact ⟨ret_eq (by rw [Hr.out]; rfl), K.drewN _⟩
    · cases ba
      · go_enter Tryd.func62, Tryd.ntmps62
        go_wp2_with fail
        rw [← HB0.out]
        refine wp_region_rv 8 GQ (kindV []) (by kernel_rfl) (by kernel_rfl) GQ.trans GQ.refl (GQ.start _) (kindV_mono _) ?_
        simp only [List.take_succ_cons, List.take_zero, List.drop_succ_cons, List.drop_zero]
        iterate 8 (refine rv_det (by kernel_rfl) rfl (by intro w hG hH; obtain ⟨n, rfl⟩ := hG; go_simp; first | done | with_reducible rfl) ?_; simp only [Act.put, List.setIfInBounds_toArray, List.set_cons_zero, List.set_cons_succ])
        refine rv_nil (fun w hG hH => ?_)
        obtain ⟨n, rfl⟩ := hG
        clear hH
        go_wp2_with fail
        go_ret
        exact ⟨ret_eq (by rw [Hr.out]; rfl), K.drewN _⟩
      · go_enter Tryd.func62, Tryd.ntmps62
        go_wp2_with fail
        rw [← HB0.out]
        refine wp_region_rv 8 GQ (kindV []) (by kernel_rfl) (by kernel_rfl) GQ.trans GQ.refl (GQ.start _) (kindV_mono _) ?_
        simp only [List.take_succ_cons, List.take_zero, List.drop_succ_cons, List.drop_zero]
        iterate 8 (refine rv_det (by kernel_rfl) rfl (by intro w hG hH; obtain ⟨n, rfl⟩ := hG; go_simp; first | done | with_reducible rfl) ?_; simp only [Act.put, List.setIfInBounds_toArray, List.set_cons_zero, List.set_cons_succ])
        refine rv_nil (fun w hG hH => ?_)
        obtain ⟨n, rfl⟩ := hG
        clear hH
        go_wp2_with fail
        go_ret
        exact ⟨ret_eq (by rw [Hr.out]; rfl), K.drewN _⟩

set_option maxRecDepth 100000 in
set_option maxHeartbeats 4000000 in
theorem fields_37 (at_ n : Int) (s : ByteArray) (la : Option Addr) (ll lc : Nat) (w : World) (_hs : s.size ≤ 9223372036854775807) (_hn2 : n ≤ 9223372036854775807) :
    Calls Tryd.prog 62 #[.agg #[.int .u8 37, .int .i64 at_, .int .i64 n, .string s, .slice la ll lc]] w fun e w' => e = .returned (.bool (fieldsB 37 at_ n s)) ∧ KB F0 w w' := by
  obtain ⟨w0, rfl⟩ : ∃ w0, w0 = w := ⟨_, rfl⟩
  have Hr : Hid (fieldsB 37 at_ n s = (emptyB s && (n == 0) && decide (0 ≤ at_) && true && true)) := Lib.hid (by
    show (emptyB s && (decide ((0 : Int) ≤ n) && decide (n ≤ (0 : Int))) && decide (0 ≤ at_) && true && true) = _
    rw [eq00])
  obtain ⟨B0, hB0⟩ : ∃ B0, B0 = (w0.alloc (.cells #[.int .u8 37, .int .i64 at_, .int .i64 n, .string s, .slice la ll lc] 25)) := ⟨_, rfl⟩
  have K : KB F0 w0 B0 := by subst hB0; exact (KB.refl _ _).alloc _
  have c0 : B0.cell? ⟨w0.heap.size, 0, none⟩ = some (.int .u8 37) := by subst hB0; exact new_cell _ _ _ 0
  have c1 : B0.cell? ⟨w0.heap.size, 1, none⟩ = some (.int .i64 at_) := by subst hB0; exact new_cell _ _ _ 1
  have c2 : B0.cell? ⟨w0.heap.size, 2, none⟩ = some (.int .i64 n) := by subst hB0; exact new_cell _ _ _ 2
  have c3 : B0.cell? ⟨w0.heap.size, 3, none⟩ = some (.string s) := by subst hB0; exact new_cell _ _ _ 3
  have HB0 := Lib.hid hB0
  clear hB0
  have tE : s.toList.isEmpty = emptyB s := rfl
  generalize emptyB s = bE at tE Hr
  obtain ⟨ba, hba⟩ : ∃ b, decide ((0 : Int) ≤ at_) = b := ⟨_, rfl⟩
  rw [hba] at Hr
  obtain ⟨q0, hq0⟩ : ∃ b, (n == 0) = b := ⟨_, rfl⟩
  rw [hq0] at Hr
  clear _hs _hn2
  cases bE
  · go_enter Tryd.func62, Tryd.ntmps62
    go_wp2_with fail
    rw [← HB0.out]
    refine wp_region_rv 8 GQ (kindV []) (by kernel_rfl) (by kernel_rfl) GQ.trans GQ.refl (GQ.start _) (kindV_mono _) ?_
    simp only [List.take_succ_cons, List.take_zero, List.drop_succ_cons, List.drop_zero]
    iterate 8 (refine rv_det (by kernel_rfl) rfl (by intro w hG hH; obtain ⟨n, rfl⟩ := hG; go_simp; first | done | with_reducible rfl) ?_; simp only [Act.put, List.setIfInBounds_toArray, List.set_cons_zero, List.set_cons_succ])
    refine rv_nil (fun w hG hH => ?_)
    obtain ⟨n, rfl⟩ := hG
    clear hH
    go_wp2_with fail
    go_ret
    exact ⟨ret_eq (by rw [Hr.out]; rfl), K.drewN _⟩
  · cases q0
    · cases ba
      · go_enter Tryd.func62, Tryd.ntmps62
        go_wp2_with fail
        rw [← HB0.out]
        refine wp_region_rv 8 GQ (kindV []) (by kernel_rfl) (by kernel_rfl) GQ.trans GQ.refl (GQ.start _) (kindV_mono _) ?_
        simp only [List.take_succ_cons, List.take_zero, List.drop_succ_cons, List.drop_zero]
        iterate 8 (refine rv_det (by kernel_rfl) rfl (by intro w hG hH; obtain ⟨n, rfl⟩ := hG; go_simp; first | done | with_reducible rfl) ?_; simp only [Act.put, List.setIfInBounds_toArray, List.set_cons_zero, List.set_cons_succ])
        refine rv_nil (fun w hG hH => ?_)
        obtain ⟨n, rfl⟩ := hG
        clear hH
        go_wp2_with fail
        go_ret
        exact ⟨ret_eq (by rw [Hr.out]; rfl), K.drewN _⟩
      · go_enter Tryd.func62, Tryd.ntmps62
        go_wp2_with fail
        rw [← HB0.out]
        refine wp_region_rv 8 GQ (kindV []) (by kernel_rfl) (by kernel_rfl) GQ.trans GQ.refl (GQ.start _) (kindV_mono _) ?_
        simp only [List.take_succ_cons, List.take_zero, List.drop_succ_cons, List.drop_zero]
        iterate 8 (refine rv_det (by kernel_rfl) rfl (by intro w hG hH; obtain ⟨n, rfl⟩ := hG; go_simp; first | done | with_reducible rfl) ?_; simp only [Act.put, List.setIfInBounds_toArray, List.set_cons_zero, List.set_cons_succ])
        refine rv_nil (fun w hG hH => ?_)
        obtain ⟨n, rfl⟩ := hG
        clear hH
        go_wp2_with fail
        go_ret
        exact ⟨ret_eq (by rw [Hr.out]; rfl), K.drewN _⟩
    · cases ba
      · go_enter Tryd.func62, Tryd.ntmps62
        go_wp2_with fail
        rw [← HB0.out]
        refine wp_region_rv 8 GQ (kindV []) (by kernel_rfl) (by kernel_rfl) GQ.trans GQ.refl (GQ.start _) (kindV_mono _) ?_
        simp only [List.take_succ_cons, List.take_zero, List.drop_succ_cons, List.drop_zero]
        iterate 8 (refine rv_det (by kernel_rfl) rfl (by intro w hG hH; obtain ⟨n, rfl⟩ := hG; go_simp; first | done | with_reducible rfl) ?_; simp only [Act.put, List.setIfInBounds_toArray, List.set_cons_zero, List.set_cons_succ])
        refine rv_nil (fun w hG hH => ?_)
        obtain ⟨n, rfl⟩ := hG
        clear hH
        go_wp2_with fail
        go_ret
        exact ⟨ret_eq (by rw [Hr.out]; rfl), K.drewN _⟩
      · go_enter Tryd.func62, Tryd.ntmps62
        go_wp2_with fail
        rw [← HB0.out]
        refine wp_region_rv 8 GQ (kindV []) (by kernel_rfl) (by kernel_rfl) GQ.trans GQ.refl (GQ.start _) (kindV_mono _) ?_
        simp only [List.take_succ_cons, List.take_zero, List.drop_succ_cons, List.drop_zero]
        iterate 8 (refine rv_det (by kernel_rfl) rfl (by intro w hG hH; obtain ⟨n, rfl⟩ := hG; go_simp; first | done | with_reducible rfl) ?_; simp only [Act.put, List.setIfInBounds_toArray, List.set_cons_zero, List.set_cons_succ])
        refine rv_nil (fun w hG hH => ?_)
        obtain ⟨n, rfl⟩ := hG
        clear hH
        go_wp2_with fail
        go_ret
        exact ⟨ret_eq (by rw [Hr.out]; rfl), K.drewN _⟩

set_option maxRecDepth 100000 in
set_option maxHeartbeats 4000000 in
theorem fields_38 (k : Nat) (hk : 38 ≤ k) (_hk2 : k < 256) (at_ n : Int) (s : ByteArray) (la : Option Addr) (ll lc : Nat) (w : World) (_hs : s.size ≤ 9223372036854775807) (_hn2 : n ≤ 9223372036854775807) :
    Calls Tryd.prog 62 #[.agg #[.int .u8 k, .int .i64 at_, .int .i64 n, .string s, .slice la ll lc]] w fun e w' => e = .returned (.bool (fieldsB k at_ n s)) ∧ KB F0 w w' := by
  obtain ⟨w0, rfl⟩ : ∃ w0, w0 = w := ⟨_, rfl⟩
  have Hr : Hid (fieldsB k at_ n s = (emptyB s && (n == 0) && decide (0 ≤ at_) && true && false)) := Lib.hid (by unfold fieldsB; rw [ask_big n s [] hk]; simp only [eq00]; rw [decide_eq_true (show 1 ≤ k by omega), decide_eq_false (show ¬ k ≤ 37 by omega)])
  obtain ⟨B0, hB0⟩ : ∃ B0, B0 = (w0.alloc (.cells #[.int .u8 k, .int .i64 at_, .int .i64 n, .string s, .slice la ll lc] 25)) := ⟨_, rfl⟩
  have K : KB F0 w0 B0 := by subst hB0; exact (KB.refl _ _).alloc _
  have c0 : B0.cell? ⟨w0.heap.size, 0, none⟩ = some (.int .u8 k) := by subst hB0; exact new_cell _ _ _ 0
  have c1 : B0.cell? ⟨w0.heap.size, 1, none⟩ = some (.int .i64 at_) := by subst hB0; exact new_cell _ _ _ 1
  have c2 : B0.cell? ⟨w0.heap.size, 2, none⟩ = some (.int .i64 n) := by subst hB0; exact new_cell _ _ _ 2
  have c3 : B0.cell? ⟨w0.heap.size, 3, none⟩ = some (.string s) := by subst hB0; exact new_cell _ _ _ 3
  have HB0 := Lib.hid hB0
  clear hB0
  have tE : s.toList.isEmpty = emptyB s := rfl
  generalize emptyB s = bE at tE Hr
  have u0 : ((k : Int) == 2) = false := by simp; omega
  have u1 : ((k : Int) == 12) = false := by simp; omega
  have u2 : ((k : Int) == 34) = false := by simp; omega
  have u3 : ((k : Int) == 3) = false := by simp; omega
  have u4 : ((k : Int) == 7) = false := by simp; omega
  have u5 : ((k : Int) == 26) = false := by simp; omega
  have u6 : ((k : Int) == 27) = false := by simp; omega
  have u7 : ((k : Int) == 33) = false := by simp; omega
  have u8 : ((k : Int) == 35) = false := by simp; omega
  have u9 : ((k : Int) == 5) = false := by simp; omega
  have u10 : ((k : Int) == 6) = false := by simp; omega
  have u11 : ((k : Int) == 4) = false := by simp; omega
  have u12 : ((k : Int) == 11) = false := by simp; omega
  have u13 : ((k : Int) == 14) = false := by simp; omega
  have u14 : ((k : Int) == 16) = false := by simp; omega
  have u15 : ((k : Int) == 25) = false := by simp; omega
  have u16 : ((k : Int) == 29) = false := by simp; omega
  have u17 : ((k : Int) == 24) = false := by simp; omega
  have u18 : ((k : Int) == 32) = false := by simp; omega
  have v1 : decide ((1 : Int) ≤ (k : Int)) = true := by simp; omega
  have v2 : decide ((k : Int) ≤ (37 : Int)) = false := by simp; omega
  clear hk _hk2
  obtain ⟨ba, hba⟩ : ∃ b, decide ((0 : Int) ≤ at_) = b := ⟨_, rfl⟩
  rw [hba] at Hr
  obtain ⟨q0, hq0⟩ : ∃ b, (n == 0) = b := ⟨_, rfl⟩
  rw [hq0] at Hr
  clear _hs _hn2
  cases bE
  · go_enter Tryd.func62, Tryd.ntmps62
    go_wp2_with fail
    rw [← HB0.out]
    refine wp_region_rv 8 GQ (kindV []) (by kernel_rfl) (by kernel_rfl) GQ.trans GQ.refl (GQ.start _) (kindV_mono _) ?_
    simp only [List.take_succ_cons, List.take_zero, List.drop_succ_cons, List.drop_zero]
    iterate 8 (refine rv_det (by kernel_rfl) rfl (by intro w hG hH; obtain ⟨n, rfl⟩ := hG; go_simp; first | done | with_reducible rfl) ?_; simp only [Act.put, List.setIfInBounds_toArray, List.set_cons_zero, List.set_cons_succ])
    refine rv_nil (fun w hG hH => ?_)
    obtain ⟨n, rfl⟩ := hG
    clear hH
    go_wp2_with fail
    go_ret
    exact ⟨ret_eq (by rw [Hr.out]; rfl), K.drewN _⟩
  · cases q0
    · cases ba
      · go_enter Tryd.func62, Tryd.ntmps62
        go_wp2_with fail
        rw [← HB0.out]
        refine wp_region_rv 8 GQ (kindV []) (by kernel_rfl) (by kernel_rfl) GQ.trans GQ.refl (GQ.start _) (kindV_mono _) ?_
        simp only [List.take_succ_cons, List.take_zero, List.drop_succ_cons, List.drop_zero]
        iterate 8 (refine rv_det (by kernel_rfl) rfl (by intro w hG hH; obtain ⟨n, rfl⟩ := hG; go_simp; first | done | with_reducible rfl) ?_; simp only [Act.put, List.setIfInBounds_toArray, List.set_cons_zero, List.set_cons_succ])
        refine rv_nil (fun w hG hH => ?_)
        obtain ⟨n, rfl⟩ := hG
        clear hH
        go_wp2_with fail
        go_ret
        exact ⟨ret_eq (by rw [Hr.out]; rfl), K.drewN _⟩
      · go_enter Tryd.func62, Tryd.ntmps62
        go_wp2_with fail
        rw [← HB0.out]
        refine wp_region_rv 8 GQ (kindV []) (by kernel_rfl) (by kernel_rfl) GQ.trans GQ.refl (GQ.start _) (kindV_mono _) ?_
        simp only [List.take_succ_cons, List.take_zero, List.drop_succ_cons, List.drop_zero]
        iterate 8 (refine rv_det (by kernel_rfl) rfl (by intro w hG hH; obtain ⟨n, rfl⟩ := hG; go_simp; first | done | with_reducible rfl) ?_; simp only [Act.put, List.setIfInBounds_toArray, List.set_cons_zero, List.set_cons_succ])
        refine rv_nil (fun w hG hH => ?_)
        obtain ⟨n, rfl⟩ := hG
        clear hH
        go_wp2_with fail
        go_ret
        exact ⟨ret_eq (by rw [Hr.out]; rfl), K.drewN _⟩
    · cases ba
      · go_enter Tryd.func62, Tryd.ntmps62
        go_wp2_with fail
        rw [← HB0.out]
        refine wp_region_rv 8 GQ (kindV []) (by kernel_rfl) (by kernel_rfl) GQ.trans GQ.refl (GQ.start _) (kindV_mono _) ?_
        simp only [List.take_succ_cons, List.take_zero, List.drop_succ_cons, List.drop_zero]
        iterate 8 (refine rv_det (by kernel_rfl) rfl (by intro w hG hH; obtain ⟨n, rfl⟩ := hG; go_simp; first | done | with_reducible rfl) ?_; simp only [Act.put, List.setIfInBounds_toArray, List.set_cons_zero, List.set_cons_succ])
        refine rv_nil (fun w hG hH => ?_)
        obtain ⟨n, rfl⟩ := hG
        clear hH
        go_wp2_with fail
        go_ret
        exact ⟨ret_eq (by rw [Hr.out]; rfl), K.drewN _⟩
      · go_enter Tryd.func62, Tryd.ntmps62
        go_wp2_with fail
        rw [← HB0.out]
        refine wp_region_rv 8 GQ (kindV []) (by kernel_rfl) (by kernel_rfl) GQ.trans GQ.refl (GQ.start _) (kindV_mono _) ?_
        simp only [List.take_succ_cons, List.take_zero, List.drop_succ_cons, List.drop_zero]
        iterate 8 (refine rv_det (by kernel_rfl) rfl (by intro w hG hH; obtain ⟨n, rfl⟩ := hG; go_simp; first | done | with_reducible rfl) ?_; simp only [Act.put, List.setIfInBounds_toArray, List.set_cons_zero, List.set_cons_succ])
        refine rv_nil (fun w hG hH => ?_)
        obtain ⟨n, rfl⟩ := hG
        clear hH
        go_wp2_with fail
        go_ret
        exact ⟨ret_eq (by rw [Hr.out]; rfl), K.drewN _⟩

end Go.Proofs.YtjefoojkgocinaaDoor

namespace Go.Proofs.YtjefoojkgocinaaDoor
open Go.RowKit
set_option maxRecDepth 100000 in
set_option maxHeartbeats 4000000 in
theorem fields_4 (at_ n : Int) (s : ByteArray) (la : Option Addr) (ll lc : Nat) (w : World) (hs : s.size ≤ 9223372036854775807) (_hn2 : n ≤ 9223372036854775807) :
    Calls Tryd.prog 62 #[.agg #[.int .u8 4, .int .i64 at_, .int .i64 n, .string s, .slice la ll lc]] w fun e w' => e = .returned (.bool (fieldsB 4 at_ n s)) ∧ KB F0 w w' := by
  obtain ⟨w0, rfl⟩ : ∃ w0, w0 = w := ⟨_, rfl⟩
  have Hr : Hid (fieldsB 4 at_ n s = (nameB s && (decide ((0 : Int) ≤ n) && decide (n ≤ (8 : Int))) && decide (0 ≤ at_) && true && true)) := Lib.hid (by
    show (nameB s && (decide ((0 : Int) ≤ n) && decide (n ≤ (8 : Int))) && decide (0 ≤ at_) && true && true) = _
    rfl)
  obtain ⟨B0, hB0⟩ : ∃ B0, B0 = (w0.alloc (.cells #[.int .u8 4, .int .i64 at_, .int .i64 n, .string s, .slice la ll lc] 25)) := ⟨_, rfl⟩
  have K : KB F0 w0 B0 := by subst hB0; exact (KB.refl _ _).alloc _
  have c0 : B0.cell? ⟨w0.heap.size, 0, none⟩ = some (.int .u8 4) := by subst hB0; exact new_cell _ _ _ 0
  have c1 : B0.cell? ⟨w0.heap.size, 1, none⟩ = some (.int .i64 at_) := by subst hB0; exact new_cell _ _ _ 1
  have c2 : B0.cell? ⟨w0.heap.size, 2, none⟩ = some (.int .i64 n) := by subst hB0; exact new_cell _ _ _ 2
  have c3 : B0.cell? ⟨w0.heap.size, 3, none⟩ = some (.string s) := by subst hB0; exact new_cell _ _ _ 3
  have HB0 := Lib.hid hB0
  clear hB0
  have HS := Lib.hid (fun W => cname_any s W hs)
  generalize nameB s = bN at HS Hr
  obtain ⟨ba, hba⟩ : ∃ b, decide ((0 : Int) ≤ at_) = b := ⟨_, rfl⟩
  rw [hba] at Hr
  obtain ⟨q0, hq0⟩ : ∃ b, decide ((0 : Int) ≤ n) = b := ⟨_, rfl⟩
  rw [hq0] at Hr
  obtain ⟨q1, hq1⟩ : ∃ b, decide (n ≤ (8 : Int)) = b := ⟨_, rfl⟩
  rw [hq1] at Hr
  clear hs _hn2
  cases q0
  · cases q1
    · cases bN
      · go_enter Tryd.func62, Tryd.ntmps62
        go_wp2_with fail
        rw [← HB0.out]
        refine wp_region_rv 8 GQ (kindV []) (by kernel_rfl) (by kernel_rfl) GQ.trans GQ.refl (GQ.start _) (kindV_mono _) ?_
        simp only [List.take_succ_cons, List.take_zero, List.drop_succ_cons, List.drop_zero]
        iterate 8 (refine rv_det (by kernel_rfl) rfl (by intro w hG hH; obtain ⟨n, rfl⟩ := hG; go_simp; first | done | with_reducible rfl) ?_; simp only [Act.put, List.setIfInBounds_toArray, List.set_cons_zero, List.set_cons_succ])
        refine rv_nil (fun w hG hH => ?_)
        obtain ⟨n, rfl⟩ := hG
        clear hH
        go_wp2_with fail
        refine (HS.out _).mono ?_
        rintro e _ ⟨rfl, rfl⟩
        go_wp2_with fail
        go_ret
        exact ⟨ret_eq (by rw [Hr.out]; rfl), K.drewN _⟩
      · cases ba
        · go_enter Tryd.func62, Tryd.ntmps62
          go_wp2_with fail
          rw [← HB0.out]
          refine wp_region_rv 8 GQ (kindV []) (by kernel_rfl) (by kernel_rfl) GQ.trans GQ.refl (GQ.start _) (kindV_mono _) ?_
          simp only [List.take_succ_cons, List.take_zero, List.drop_succ_cons, List.drop_zero]
          iterate 8 (refine rv_det (by kernel_rfl) rfl (by intro w hG hH; obtain ⟨n, rfl⟩ := hG; go_simp; first | done | with_reducible rfl) ?_; simp only [Act.put, List.setIfInBounds_toArray, List.set_cons_zero, List.set_cons_succ])
          refine rv_nil (fun w hG hH => ?_)
          obtain ⟨n, rfl⟩ := hG
          clear hH
          go_wp2_with fail
          refine (HS.out _).mono ?_
          rintro e _ ⟨rfl, rfl⟩
          go_wp2_with fail
          go_ret
          exact ⟨ret_eq (by rw [Hr.out]; rfl), K.drewN _⟩
        · go_enter Tryd.func62, Tryd.ntmps62
          go_wp2_with fail
          rw [← HB0.out]
          refine wp_region_rv 8 GQ (kindV []) (by kernel_rfl) (by kernel_rfl) GQ.trans GQ.refl (GQ.start _) (kindV_mono _) ?_
          simp only [List.take_succ_cons, List.take_zero, List.drop_succ_cons, List.drop_zero]
          iterate 8 (refine rv_det (by kernel_rfl) rfl (by intro w hG hH; obtain ⟨n, rfl⟩ := hG; go_simp; first | done | with_reducible rfl) ?_; simp only [Act.put, List.setIfInBounds_toArray, List.set_cons_zero, List.set_cons_succ])
          refine rv_nil (fun w hG hH => ?_)
          obtain ⟨n, rfl⟩ := hG
          clear hH
          go_wp2_with fail
          refine (HS.out _).mono ?_
          rintro e _ ⟨rfl, rfl⟩
          go_wp2_with fail
          go_ret
          exact ⟨ret_eq (by rw [Hr.out]; rfl), K.drewN _⟩
    · cases bN
      · go_enter Tryd.func62, Tryd.ntmps62
        go_wp2_with fail
        rw [← HB0.out]
        refine wp_region_rv 8 GQ (kindV []) (by kernel_rfl) (by kernel_rfl) GQ.trans GQ.refl (GQ.start _) (kindV_mono _) ?_
        simp only [List.take_succ_cons, List.take_zero, List.drop_succ_cons, List.drop_zero]
        iterate 8 (refine rv_det (by kernel_rfl) rfl (by intro w hG hH; obtain ⟨n, rfl⟩ := hG; go_simp; first | done | with_reducible rfl) ?_; simp only [Act.put, List.setIfInBounds_toArray, List.set_cons_zero, List.set_cons_succ])
        refine rv_nil (fun w hG hH => ?_)
        obtain ⟨n, rfl⟩ := hG
        clear hH
        go_wp2_with fail
        refine (HS.out _).mono ?_
        rintro e _ ⟨rfl, rfl⟩
        go_wp2_with fail
        go_ret
        exact ⟨ret_eq (by rw [Hr.out]; rfl), K.drewN _⟩
      · cases ba
        · go_enter Tryd.func62, Tryd.ntmps62
          go_wp2_with fail
          rw [← HB0.out]
          refine wp_region_rv 8 GQ (kindV []) (by kernel_rfl) (by kernel_rfl) GQ.trans GQ.refl (GQ.start _) (kindV_mono _) ?_
          simp only [List.take_succ_cons, List.take_zero, List.drop_succ_cons, List.drop_zero]
          iterate 8 (refine rv_det (by kernel_rfl) rfl (by intro w hG hH; obtain ⟨n, rfl⟩ := hG; go_simp; first | done | with_reducible rfl) ?_; simp only [Act.put, List.setIfInBounds_toArray, List.set_cons_zero, List.set_cons_succ])
          refine rv_nil (fun w hG hH => ?_)
          obtain ⟨n, rfl⟩ := hG
          clear hH
          go_wp2_with fail
          refine (HS.out _).mono ?_
          rintro e _ ⟨rfl, rfl⟩
          go_wp2_with fail
          go_ret
          exact ⟨ret_eq (by rw [Hr.out]; rfl), K.drewN _⟩
        · go_enter Tryd.func62, Tryd.ntmps62
          go_wp2_with fail
          rw [← HB0.out]
          refine wp_region_rv 8 GQ (kindV []) (by kernel_rfl) (by kernel_rfl) GQ.trans GQ.refl (GQ.start _) (kindV_mono _) ?_
          simp only [List.take_succ_cons, List.take_zero, List.drop_succ_cons, List.drop_zero]
          iterate 8 (refine rv_det (by kernel_rfl) rfl (by intro w hG hH; obtain ⟨n, rfl⟩ := hG; go_simp; first | done | with_reducible rfl) ?_; simp only [Act.put, List.setIfInBounds_toArray, List.set_cons_zero, List.set_cons_succ])
          refine rv_nil (fun w hG hH => ?_)
          obtain ⟨n, rfl⟩ := hG
          clear hH
          go_wp2_with fail
          refine (HS.out _).mono ?_
          rintro e _ ⟨rfl, rfl⟩
          go_wp2_with fail
          go_ret
          exact ⟨ret_eq (by rw [Hr.out]; rfl), K.drewN _⟩
  · cases q1
    · cases bN
      · go_enter Tryd.func62, Tryd.ntmps62
        go_wp2_with fail
        rw [← HB0.out]
        refine wp_region_rv 8 GQ (kindV []) (by kernel_rfl) (by kernel_rfl) GQ.trans GQ.refl (GQ.start _) (kindV_mono _) ?_
        simp only [List.take_succ_cons, List.take_zero, List.drop_succ_cons, List.drop_zero]
        iterate 8 (refine rv_det (by kernel_rfl) rfl (by intro w hG hH; obtain ⟨n, rfl⟩ := hG; go_simp; first | done | with_reducible rfl) ?_; simp only [Act.put, List.setIfInBounds_toArray, List.set_cons_zero, List.set_cons_succ])
        refine rv_nil (fun w hG hH => ?_)
        obtain ⟨n, rfl⟩ := hG
        clear hH
        go_wp2_with fail
        refine (HS.out _).mono ?_
        rintro e _ ⟨rfl, rfl⟩
        go_wp2_with fail
        go_ret
        exact ⟨ret_eq (by rw [Hr.out]; rfl), K.drewN _⟩
      · cases ba
        · go_enter Tryd.func62, Tryd.ntmps62
          go_wp2_with fail
          rw [← HB0.out]
          refine wp_region_rv 8 GQ (kindV []) (by kernel_rfl) (by kernel_rfl) GQ.trans GQ.refl (GQ.start _) (kindV_mono _) ?_
          simp only [List.take_succ_cons, List.take_zero, List.drop_succ_cons, List.drop_zero]
          iterate 8 (refine rv_det (by kernel_rfl) rfl (by intro w hG hH; obtain ⟨n, rfl⟩ := hG; go_simp; first | done | with_reducible rfl) ?_; simp only [Act.put, List.setIfInBounds_toArray, List.set_cons_zero, List.set_cons_succ])
          refine rv_nil (fun w hG hH => ?_)
          obtain ⟨n, rfl⟩ := hG
          clear hH
          go_wp2_with fail
          refine (HS.out _).mono ?_
          rintro e _ ⟨rfl, rfl⟩
          go_wp2_with fail
          go_ret
          exact ⟨ret_eq (by rw [Hr.out]; rfl), K.drewN _⟩
        · go_enter Tryd.func62, Tryd.ntmps62
          go_wp2_with fail
          rw [← HB0.out]
          refine wp_region_rv 8 GQ (kindV []) (by kernel_rfl) (by kernel_rfl) GQ.trans GQ.refl (GQ.start _) (kindV_mono _) ?_
          simp only [List.take_succ_cons, List.take_zero, List.drop_succ_cons, List.drop_zero]
          iterate 8 (refine rv_det (by kernel_rfl) rfl (by intro w hG hH; obtain ⟨n, rfl⟩ := hG; go_simp; first | done | with_reducible rfl) ?_; simp only [Act.put, List.setIfInBounds_toArray, List.set_cons_zero, List.set_cons_succ])
          refine rv_nil (fun w hG hH => ?_)
          obtain ⟨n, rfl⟩ := hG
          clear hH
          go_wp2_with fail
          refine (HS.out _).mono ?_
          rintro e _ ⟨rfl, rfl⟩
          go_wp2_with fail
          go_ret
          exact ⟨ret_eq (by rw [Hr.out]; rfl), K.drewN _⟩
    · cases bN
      · go_enter Tryd.func62, Tryd.ntmps62
        go_wp2_with fail
        rw [← HB0.out]
        refine wp_region_rv 8 GQ (kindV []) (by kernel_rfl) (by kernel_rfl) GQ.trans GQ.refl (GQ.start _) (kindV_mono _) ?_
        simp only [List.take_succ_cons, List.take_zero, List.drop_succ_cons, List.drop_zero]
        iterate 8 (refine rv_det (by kernel_rfl) rfl (by intro w hG hH; obtain ⟨n, rfl⟩ := hG; go_simp; first | done | with_reducible rfl) ?_; simp only [Act.put, List.setIfInBounds_toArray, List.set_cons_zero, List.set_cons_succ])
        refine rv_nil (fun w hG hH => ?_)
        obtain ⟨n, rfl⟩ := hG
        clear hH
        go_wp2_with fail
        refine (HS.out _).mono ?_
        rintro e _ ⟨rfl, rfl⟩
        go_wp2_with fail
        go_ret
        exact ⟨ret_eq (by rw [Hr.out]; rfl), K.drewN _⟩
      · cases ba
        · go_enter Tryd.func62, Tryd.ntmps62
          go_wp2_with fail
          rw [← HB0.out]
          refine wp_region_rv 8 GQ (kindV []) (by kernel_rfl) (by kernel_rfl) GQ.trans GQ.refl (GQ.start _) (kindV_mono _) ?_
          simp only [List.take_succ_cons, List.take_zero, List.drop_succ_cons, List.drop_zero]
          iterate 8 (refine rv_det (by kernel_rfl) rfl (by intro w hG hH; obtain ⟨n, rfl⟩ := hG; go_simp; first | done | with_reducible rfl) ?_; simp only [Act.put, List.setIfInBounds_toArray, List.set_cons_zero, List.set_cons_succ])
          refine rv_nil (fun w hG hH => ?_)
          obtain ⟨n, rfl⟩ := hG
          clear hH
          go_wp2_with fail
          refine (HS.out _).mono ?_
          rintro e _ ⟨rfl, rfl⟩
          go_wp2_with fail
          go_ret
          exact ⟨ret_eq (by rw [Hr.out]; rfl), K.drewN _⟩
        · go_enter Tryd.func62, Tryd.ntmps62
          go_wp2_with fail
          rw [← HB0.out]
          refine wp_region_rv 8 GQ (kindV []) (by kernel_rfl) (by kernel_rfl) GQ.trans GQ.refl (GQ.start _) (kindV_mono _) ?_
          simp only [List.take_succ_cons, List.take_zero, List.drop_succ_cons, List.drop_zero]
          iterate 8 (refine rv_det (by kernel_rfl) rfl (by intro w hG hH; obtain ⟨n, rfl⟩ := hG; go_simp; first | done | with_reducible rfl) ?_; simp only [Act.put, List.setIfInBounds_toArray, List.set_cons_zero, List.set_cons_succ])
          refine rv_nil (fun w hG hH => ?_)
          obtain ⟨n, rfl⟩ := hG
          clear hH
          go_wp2_with fail
          refine (HS.out _).mono ?_
          rintro e _ ⟨rfl, rfl⟩
          go_wp2_with fail
          go_ret
          exact ⟨ret_eq (by rw [Hr.out]; rfl), K.drewN _⟩

set_option maxRecDepth 100000 in
set_option maxHeartbeats 4000000 in
theorem fields_11 (at_ n : Int) (s : ByteArray) (la : Option Addr) (ll lc : Nat) (w : World) (hs : s.size ≤ 9223372036854775807) (_hn2 : n ≤ 9223372036854775807) :
    Calls Tryd.prog 62 #[.agg #[.int .u8 11, .int .i64 at_, .int .i64 n, .string s, .slice la ll lc]] w fun e w' => e = .returned (.bool (fieldsB 11 at_ n s)) ∧ KB F0 w w' := by
  obtain ⟨w0, rfl⟩ : ∃ w0, w0 = w := ⟨_, rfl⟩
  have Hr : Hid (fieldsB 11 at_ n s = ((emptyB s || nameB s) && ((n == 0) || (n == 1)) && decide (0 ≤ at_) && true && true)) := Lib.hid (by
    show ((emptyB s || nameB s) && (decide ((0 : Int) ≤ n) && decide (n ≤ (1 : Int))) && decide (0 ≤ at_) && true && true) = _
    rw [eq01])
  obtain ⟨B0, hB0⟩ : ∃ B0, B0 = (w0.alloc (.cells #[.int .u8 11, .int .i64 at_, .int .i64 n, .string s, .slice la ll lc] 25)) := ⟨_, rfl⟩
  have K : KB F0 w0 B0 := by subst hB0; exact (KB.refl _ _).alloc _
  have c0 : B0.cell? ⟨w0.heap.size, 0, none⟩ = some (.int .u8 11) := by subst hB0; exact new_cell _ _ _ 0
  have c1 : B0.cell? ⟨w0.heap.size, 1, none⟩ = some (.int .i64 at_) := by subst hB0; exact new_cell _ _ _ 1
  have c2 : B0.cell? ⟨w0.heap.size, 2, none⟩ = some (.int .i64 n) := by subst hB0; exact new_cell _ _ _ 2
  have c3 : B0.cell? ⟨w0.heap.size, 3, none⟩ = some (.string s) := by subst hB0; exact new_cell _ _ _ 3
  have HB0 := Lib.hid hB0
  clear hB0
  have HS := Lib.hid (fun W => cname_any s W hs)
  have tE : s.toList.isEmpty = emptyB s := rfl
  generalize emptyB s = bE at tE Hr
  generalize nameB s = bN at HS Hr
  obtain ⟨ba, hba⟩ : ∃ b, decide ((0 : Int) ≤ at_) = b := ⟨_, rfl⟩
  rw [hba] at Hr
  obtain ⟨q0, hq0⟩ : ∃ b, (n == 0) = b := ⟨_, rfl⟩
  rw [hq0] at Hr
  obtain ⟨q1, hq1⟩ : ∃ b, (n == 1) = b := ⟨_, rfl⟩
  rw [hq1] at Hr
  clear hs _hn2
  cases q0
  · cases q1
    · cases bE
      · cases bN
        · go_enter Tryd.func62, Tryd.ntmps62
          go_wp2_with fail
          rw [← HB0.out]
          refine wp_region_rv 8 GQ (kindV []) (by kernel_rfl) (by kernel_rfl) GQ.trans GQ.refl (GQ.start _) (kindV_mono _) ?_
          simp only [List.take_succ_cons, List.take_zero, List.drop_succ_cons, List.drop_zero]
          iterate 8 (refine rv_det (by kernel_rfl) rfl (by intro w hG hH; obtain ⟨n, rfl⟩ := hG; go_simp; first | done | with_reducible rfl) ?_; simp only [Act.put, List.setIfInBounds_toArray, List.set_cons_zero, List.set_cons_succ])
          refine rv_nil (fun w hG hH => ?_)
          obtain ⟨n, rfl⟩ := hG
          clear hH
          go_wp2_with fail
          refine (HS.out _).mono ?_
          rintro e _ ⟨rfl, rfl⟩
          go_wp2_with fail
          go_ret
          exact ⟨ret_eq (by rw [Hr.out]; rfl), K.drewN _⟩
        · cases ba
          · go_enter Tryd.func62, Tryd.ntmps62
            go_wp2_with fail
            rw [← HB0.out]
            refine wp_region_rv 8 GQ (kindV []) (by kernel_rfl) (by kernel_rfl) GQ.trans GQ.refl (GQ.start _) (kindV_mono _) ?_
            simp only [List.take_succ_cons, List.take_zero, List.drop_succ_cons, List.drop_zero]
            iterate 8 (refine rv_det (by kernel_rfl) rfl (by intro w hG hH; obtain ⟨n, rfl⟩ := hG; go_simp; first | done | with_reducible rfl) ?_; simp only [Act.put, List.setIfInBounds_toArray, List.set_cons_zero, List.set_cons_succ])
            refine rv_nil (fun w hG hH => ?_)
            obtain ⟨n, rfl⟩ := hG
            clear hH
            go_wp2_with fail
            refine (HS.out _).mono ?_
            rintro e _ ⟨rfl, rfl⟩
            go_wp2_with fail
            go_ret
            exact ⟨ret_eq (by rw [Hr.out]; rfl), K.drewN _⟩
          · go_enter Tryd.func62, Tryd.ntmps62
            go_wp2_with fail
            rw [← HB0.out]
            refine wp_region_rv 8 GQ (kindV []) (by kernel_rfl) (by kernel_rfl) GQ.trans GQ.refl (GQ.start _) (kindV_mono _) ?_
            simp only [List.take_succ_cons, List.take_zero, List.drop_succ_cons, List.drop_zero]
            iterate 8 (refine rv_det (by kernel_rfl) rfl (by intro w hG hH; obtain ⟨n, rfl⟩ := hG; go_simp; first | done | with_reducible rfl) ?_; simp only [Act.put, List.setIfInBounds_toArray, List.set_cons_zero, List.set_cons_succ])
            refine rv_nil (fun w hG hH => ?_)
            obtain ⟨n, rfl⟩ := hG
            clear hH
            go_wp2_with fail
            refine (HS.out _).mono ?_
            rintro e _ ⟨rfl, rfl⟩
            go_wp2_with fail
            go_ret
            exact ⟨ret_eq (by rw [Hr.out]; rfl), K.drewN _⟩
      · cases ba
        · go_enter Tryd.func62, Tryd.ntmps62
          go_wp2_with fail
          rw [← HB0.out]
          refine wp_region_rv 8 GQ (kindV []) (by kernel_rfl) (by kernel_rfl) GQ.trans GQ.refl (GQ.start _) (kindV_mono _) ?_
          simp only [List.take_succ_cons, List.take_zero, List.drop_succ_cons, List.drop_zero]
          iterate 8 (refine rv_det (by kernel_rfl) rfl (by intro w hG hH; obtain ⟨n, rfl⟩ := hG; go_simp; first | done | with_reducible rfl) ?_; simp only [Act.put, List.setIfInBounds_toArray, List.set_cons_zero, List.set_cons_succ])
          refine rv_nil (fun w hG hH => ?_)
          obtain ⟨n, rfl⟩ := hG
          clear hH
          go_wp2_with fail
          go_ret
          exact ⟨ret_eq (by rw [Hr.out]; rfl), K.drewN _⟩
        · go_enter Tryd.func62, Tryd.ntmps62
          go_wp2_with fail
          rw [← HB0.out]
          refine wp_region_rv 8 GQ (kindV []) (by kernel_rfl) (by kernel_rfl) GQ.trans GQ.refl (GQ.start _) (kindV_mono _) ?_
          simp only [List.take_succ_cons, List.take_zero, List.drop_succ_cons, List.drop_zero]
          iterate 8 (refine rv_det (by kernel_rfl) rfl (by intro w hG hH; obtain ⟨n, rfl⟩ := hG; go_simp; first | done | with_reducible rfl) ?_; simp only [Act.put, List.setIfInBounds_toArray, List.set_cons_zero, List.set_cons_succ])
          refine rv_nil (fun w hG hH => ?_)
          obtain ⟨n, rfl⟩ := hG
          clear hH
          go_wp2_with fail
          go_ret
          exact ⟨ret_eq (by rw [Hr.out]; rfl), K.drewN _⟩
    · cases bE
      · cases bN
        · go_enter Tryd.func62, Tryd.ntmps62
          go_wp2_with fail
          rw [← HB0.out]
          refine wp_region_rv 8 GQ (kindV []) (by kernel_rfl) (by kernel_rfl) GQ.trans GQ.refl (GQ.start _) (kindV_mono _) ?_
          simp only [List.take_succ_cons, List.take_zero, List.drop_succ_cons, List.drop_zero]
          iterate 8 (refine rv_det (by kernel_rfl) rfl (by intro w hG hH; obtain ⟨n, rfl⟩ := hG; go_simp; first | done | with_reducible rfl) ?_; simp only [Act.put, List.setIfInBounds_toArray, List.set_cons_zero, List.set_cons_succ])
          refine rv_nil (fun w hG hH => ?_)
          obtain ⟨n, rfl⟩ := hG
          clear hH
          go_wp2_with fail
          refine (HS.out _).mono ?_
          rintro e _ ⟨rfl, rfl⟩
          go_wp2_with fail
          go_ret
          exact ⟨ret_eq (by rw [Hr.out]; rfl), K.drewN _⟩
        · cases ba
          · go_enter Tryd.func62, Tryd.ntmps62
            go_wp2_with fail
            rw [← HB0.out]
            refine wp_region_rv 8 GQ (kindV []) (by kernel_rfl) (by kernel_rfl) GQ.trans GQ.refl (GQ.start _) (kindV_mono _) ?_
            simp only [List.take_succ_cons, List.take_zero, List.drop_succ_cons, List.drop_zero]
            iterate 8 (refine rv_det (by kernel_rfl) rfl (by intro w hG hH; obtain ⟨n, rfl⟩ := hG; go_simp; first | done | with_reducible rfl) ?_; simp only [Act.put, List.setIfInBounds_toArray, List.set_cons_zero, List.set_cons_succ])
            refine rv_nil (fun w hG hH => ?_)
            obtain ⟨n, rfl⟩ := hG
            clear hH
            go_wp2_with fail
            refine (HS.out _).mono ?_
            rintro e _ ⟨rfl, rfl⟩
            go_wp2_with fail
            go_ret
            exact ⟨ret_eq (by rw [Hr.out]; rfl), K.drewN _⟩
          · go_enter Tryd.func62, Tryd.ntmps62
            go_wp2_with fail
            rw [← HB0.out]
            refine wp_region_rv 8 GQ (kindV []) (by kernel_rfl) (by kernel_rfl) GQ.trans GQ.refl (GQ.start _) (kindV_mono _) ?_
            simp only [List.take_succ_cons, List.take_zero, List.drop_succ_cons, List.drop_zero]
            iterate 8 (refine rv_det (by kernel_rfl) rfl (by intro w hG hH; obtain ⟨n, rfl⟩ := hG; go_simp; first | done | with_reducible rfl) ?_; simp only [Act.put, List.setIfInBounds_toArray, List.set_cons_zero, List.set_cons_succ])
            refine rv_nil (fun w hG hH => ?_)
            obtain ⟨n, rfl⟩ := hG
            clear hH
            go_wp2_with fail
            refine (HS.out _).mono ?_
            rintro e _ ⟨rfl, rfl⟩
            go_wp2_with fail
            go_ret
            exact ⟨ret_eq (by rw [Hr.out]; rfl), K.drewN _⟩
      · cases ba
        · go_enter Tryd.func62, Tryd.ntmps62
          go_wp2_with fail
          rw [← HB0.out]
          refine wp_region_rv 8 GQ (kindV []) (by kernel_rfl) (by kernel_rfl) GQ.trans GQ.refl (GQ.start _) (kindV_mono _) ?_
          simp only [List.take_succ_cons, List.take_zero, List.drop_succ_cons, List.drop_zero]
          iterate 8 (refine rv_det (by kernel_rfl) rfl (by intro w hG hH; obtain ⟨n, rfl⟩ := hG; go_simp; first | done | with_reducible rfl) ?_; simp only [Act.put, List.setIfInBounds_toArray, List.set_cons_zero, List.set_cons_succ])
          refine rv_nil (fun w hG hH => ?_)
          obtain ⟨n, rfl⟩ := hG
          clear hH
          go_wp2_with fail
          go_ret
          exact ⟨ret_eq (by rw [Hr.out]; rfl), K.drewN _⟩
        · go_enter Tryd.func62, Tryd.ntmps62
          go_wp2_with fail
          rw [← HB0.out]
          refine wp_region_rv 8 GQ (kindV []) (by kernel_rfl) (by kernel_rfl) GQ.trans GQ.refl (GQ.start _) (kindV_mono _) ?_
          simp only [List.take_succ_cons, List.take_zero, List.drop_succ_cons, List.drop_zero]
          iterate 8 (refine rv_det (by kernel_rfl) rfl (by intro w hG hH; obtain ⟨n, rfl⟩ := hG; go_simp; first | done | with_reducible rfl) ?_; simp only [Act.put, List.setIfInBounds_toArray, List.set_cons_zero, List.set_cons_succ])
          refine rv_nil (fun w hG hH => ?_)
          obtain ⟨n, rfl⟩ := hG
          clear hH
          go_wp2_with fail
          go_ret
          exact ⟨ret_eq (by rw [Hr.out]; rfl), K.drewN _⟩
  · cases q1
    · cases bE
      · cases bN
        · go_enter Tryd.func62, Tryd.ntmps62
          go_wp2_with fail
          rw [← HB0.out]
          refine wp_region_rv 8 GQ (kindV []) (by kernel_rfl) (by kernel_rfl) GQ.trans GQ.refl (GQ.start _) (kindV_mono _) ?_
          simp only [List.take_succ_cons, List.take_zero, List.drop_succ_cons, List.drop_zero]
          iterate 8 (refine rv_det (by kernel_rfl) rfl (by intro w hG hH; obtain ⟨n, rfl⟩ := hG; go_simp; first | done | with_reducible rfl) ?_; simp only [Act.put, List.setIfInBounds_toArray, List.set_cons_zero, List.set_cons_succ])
          refine rv_nil (fun w hG hH => ?_)
          obtain ⟨n, rfl⟩ := hG
          clear hH
          go_wp2_with fail
          refine (HS.out _).mono ?_
          rintro e _ ⟨rfl, rfl⟩
          go_wp2_with fail
          go_ret
          exact ⟨ret_eq (by rw [Hr.out]; rfl), K.drewN _⟩
        · cases ba
          · go_enter Tryd.func62, Tryd.ntmps62
            go_wp2_with fail
            rw [← HB0.out]
            refine wp_region_rv 8 GQ (kindV []) (by kernel_rfl) (by kernel_rfl) GQ.trans GQ.refl (GQ.start _) (kindV_mono _) ?_
            simp only [List.take_succ_cons, List.take_zero, List.drop_succ_cons, List.drop_zero]
            iterate 8 (refine rv_det (by kernel_rfl) rfl (by intro w hG hH; obtain ⟨n, rfl⟩ := hG; go_simp; first | done | with_reducible rfl) ?_; simp only [Act.put, List.setIfInBounds_toArray, List.set_cons_zero, List.set_cons_succ])
            refine rv_nil (fun w hG hH => ?_)
            obtain ⟨n, rfl⟩ := hG
            clear hH
            go_wp2_with fail
            refine (HS.out _).mono ?_
            rintro e _ ⟨rfl, rfl⟩
            go_wp2_with fail
            go_ret
            exact ⟨ret_eq (by rw [Hr.out]; rfl), K.drewN _⟩
          · go_enter Tryd.func62, Tryd.ntmps62
            go_wp2_with fail
            rw [← HB0.out]
            refine wp_region_rv 8 GQ (kindV []) (by kernel_rfl) (by kernel_rfl) GQ.trans GQ.refl (GQ.start _) (kindV_mono _) ?_
            simp only [List.take_succ_cons, List.take_zero, List.drop_succ_cons, List.drop_zero]
            iterate 8 (refine rv_det (by kernel_rfl) rfl (by intro w hG hH; obtain ⟨n, rfl⟩ := hG; go_simp; first | done | with_reducible rfl) ?_; simp only [Act.put, List.setIfInBounds_toArray, List.set_cons_zero, List.set_cons_succ])
            refine rv_nil (fun w hG hH => ?_)
            obtain ⟨n, rfl⟩ := hG
            clear hH
            go_wp2_with fail
            refine (HS.out _).mono ?_
            rintro e _ ⟨rfl, rfl⟩
            go_wp2_with fail
            go_ret
            exact ⟨ret_eq (by rw [Hr.out]; rfl), K.drewN _⟩
      · cases ba
        · go_enter Tryd.func62, Tryd.ntmps62
          go_wp2_with fail
          rw [← HB0.out]
          refine wp_region_rv 8 GQ (kindV []) (by kernel_rfl) (by kernel_rfl) GQ.trans GQ.refl (GQ.start _) (kindV_mono _) ?_
          simp only [List.take_succ_cons, List.take_zero, List.drop_succ_cons, List.drop_zero]
          iterate 8 (refine rv_det (by kernel_rfl) rfl (by intro w hG hH; obtain ⟨n, rfl⟩ := hG; go_simp; first | done | with_reducible rfl) ?_; simp only [Act.put, List.setIfInBounds_toArray, List.set_cons_zero, List.set_cons_succ])
          refine rv_nil (fun w hG hH => ?_)
          obtain ⟨n, rfl⟩ := hG
          clear hH
          go_wp2_with fail
          go_ret
          exact ⟨ret_eq (by rw [Hr.out]; rfl), K.drewN _⟩
        · go_enter Tryd.func62, Tryd.ntmps62
          go_wp2_with fail
          rw [← HB0.out]
          refine wp_region_rv 8 GQ (kindV []) (by kernel_rfl) (by kernel_rfl) GQ.trans GQ.refl (GQ.start _) (kindV_mono _) ?_
          simp only [List.take_succ_cons, List.take_zero, List.drop_succ_cons, List.drop_zero]
          iterate 8 (refine rv_det (by kernel_rfl) rfl (by intro w hG hH; obtain ⟨n, rfl⟩ := hG; go_simp; first | done | with_reducible rfl) ?_; simp only [Act.put, List.setIfInBounds_toArray, List.set_cons_zero, List.set_cons_succ])
          refine rv_nil (fun w hG hH => ?_)
          obtain ⟨n, rfl⟩ := hG
          clear hH
          go_wp2_with fail
          go_ret
          exact ⟨ret_eq (by rw [Hr.out]; rfl), K.drewN _⟩
    · cases bE
      · cases bN
        · go_enter Tryd.func62, Tryd.ntmps62
          go_wp2_with fail
          rw [← HB0.out]
          refine wp_region_rv 8 GQ (kindV []) (by kernel_rfl) (by kernel_rfl) GQ.trans GQ.refl (GQ.start _) (kindV_mono _) ?_
          simp only [List.take_succ_cons, List.take_zero, List.drop_succ_cons, List.drop_zero]
          iterate 8 (refine rv_det (by kernel_rfl) rfl (by intro w hG hH; obtain ⟨n, rfl⟩ := hG; go_simp; first | done | with_reducible rfl) ?_; simp only [Act.put, List.setIfInBounds_toArray, List.set_cons_zero, List.set_cons_succ])
          refine rv_nil (fun w hG hH => ?_)
          obtain ⟨n, rfl⟩ := hG
          clear hH
          go_wp2_with fail
          refine (HS.out _).mono ?_
          rintro e _ ⟨rfl, rfl⟩
          go_wp2_with fail
          go_ret
          exact ⟨ret_eq (by rw [Hr.out]; rfl), K.drewN _⟩
        · cases ba
          · go_enter Tryd.func62, Tryd.ntmps62
            go_wp2_with fail
            rw [← HB0.out]
            refine wp_region_rv 8 GQ (kindV []) (by kernel_rfl) (by kernel_rfl) GQ.trans GQ.refl (GQ.start _) (kindV_mono _) ?_
            simp only [List.take_succ_cons, List.take_zero, List.drop_succ_cons, List.drop_zero]
            iterate 8 (refine rv_det (by kernel_rfl) rfl (by intro w hG hH; obtain ⟨n, rfl⟩ := hG; go_simp; first | done | with_reducible rfl) ?_; simp only [Act.put, List.setIfInBounds_toArray, List.set_cons_zero, List.set_cons_succ])
            refine rv_nil (fun w hG hH => ?_)
            obtain ⟨n, rfl⟩ := hG
            clear hH
            go_wp2_with fail
            refine (HS.out _).mono ?_
            rintro e _ ⟨rfl, rfl⟩
            go_wp2_with fail
            go_ret
            exact ⟨ret_eq (by rw [Hr.out]; rfl), K.drewN _⟩
          · go_enter Tryd.func62, Tryd.ntmps62
            go_wp2_with fail
            rw [← HB0.out]
            refine wp_region_rv 8 GQ (kindV []) (by kernel_rfl) (by kernel_rfl) GQ.trans GQ.refl (GQ.start _) (kindV_mono _) ?_
            simp only [List.take_succ_cons, List.take_zero, List.drop_succ_cons, List.drop_zero]
            iterate 8 (refine rv_det (by kernel_rfl) rfl (by intro w hG hH; obtain ⟨n, rfl⟩ := hG; go_simp; first | done | with_reducible rfl) ?_; simp only [Act.put, List.setIfInBounds_toArray, List.set_cons_zero, List.set_cons_succ])
            refine rv_nil (fun w hG hH => ?_)
            obtain ⟨n, rfl⟩ := hG
            clear hH
            go_wp2_with fail
            refine (HS.out _).mono ?_
            rintro e _ ⟨rfl, rfl⟩
            go_wp2_with fail
            go_ret
            exact ⟨ret_eq (by rw [Hr.out]; rfl), K.drewN _⟩
      · cases ba
        · go_enter Tryd.func62, Tryd.ntmps62
          go_wp2_with fail
          rw [← HB0.out]
          refine wp_region_rv 8 GQ (kindV []) (by kernel_rfl) (by kernel_rfl) GQ.trans GQ.refl (GQ.start _) (kindV_mono _) ?_
          simp only [List.take_succ_cons, List.take_zero, List.drop_succ_cons, List.drop_zero]
          iterate 8 (refine rv_det (by kernel_rfl) rfl (by intro w hG hH; obtain ⟨n, rfl⟩ := hG; go_simp; first | done | with_reducible rfl) ?_; simp only [Act.put, List.setIfInBounds_toArray, List.set_cons_zero, List.set_cons_succ])
          refine rv_nil (fun w hG hH => ?_)
          obtain ⟨n, rfl⟩ := hG
          clear hH
          go_wp2_with fail
          go_ret
          exact ⟨ret_eq (by rw [Hr.out]; rfl), K.drewN _⟩
        · go_enter Tryd.func62, Tryd.ntmps62
          go_wp2_with fail
          rw [← HB0.out]
          refine wp_region_rv 8 GQ (kindV []) (by kernel_rfl) (by kernel_rfl) GQ.trans GQ.refl (GQ.start _) (kindV_mono _) ?_
          simp only [List.take_succ_cons, List.take_zero, List.drop_succ_cons, List.drop_zero]
          iterate 8 (refine rv_det (by kernel_rfl) rfl (by intro w hG hH; obtain ⟨n, rfl⟩ := hG; go_simp; first | done | with_reducible rfl) ?_; simp only [Act.put, List.setIfInBounds_toArray, List.set_cons_zero, List.set_cons_succ])
          refine rv_nil (fun w hG hH => ?_)
          obtain ⟨n, rfl⟩ := hG
          clear hH
          go_wp2_with fail
          go_ret
          exact ⟨ret_eq (by rw [Hr.out]; rfl), K.drewN _⟩

set_option maxRecDepth 100000 in
set_option maxHeartbeats 4000000 in
theorem fields_14 (at_ n : Int) (s : ByteArray) (la : Option Addr) (ll lc : Nat) (w : World) (hs : s.size ≤ 9223372036854775807) (_hn2 : n ≤ 9223372036854775807) :
    Calls Tryd.prog 62 #[.agg #[.int .u8 14, .int .i64 at_, .int .i64 n, .string s, .slice la ll lc]] w fun e w' => e = .returned (.bool (fieldsB 14 at_ n s)) ∧ KB F0 w w' := by
  obtain ⟨w0, rfl⟩ : ∃ w0, w0 = w := ⟨_, rfl⟩
  have Hr : Hid (fieldsB 14 at_ n s = (nameB s && (decide ((1 : Int) ≤ n) && decide (n ≤ (3 : Int))) && decide (0 ≤ at_) && true && true)) := Lib.hid (by
    show (nameB s && (decide ((1 : Int) ≤ n) && decide (n ≤ (3 : Int))) && decide (0 ≤ at_) && true && true) = _
    rfl)
  obtain ⟨B0, hB0⟩ : ∃ B0, B0 = (w0.alloc (.cells #[.int .u8 14, .int .i64 at_, .int .i64 n, .string s, .slice la ll lc] 25)) := ⟨_, rfl⟩
  have K : KB F0 w0 B0 := by subst hB0; exact (KB.refl _ _).alloc _
  have c0 : B0.cell? ⟨w0.heap.size, 0, none⟩ = some (.int .u8 14) := by subst hB0; exact new_cell _ _ _ 0
  have c1 : B0.cell? ⟨w0.heap.size, 1, none⟩ = some (.int .i64 at_) := by subst hB0; exact new_cell _ _ _ 1
  have c2 : B0.cell? ⟨w0.heap.size, 2, none⟩ = some (.int .i64 n) := by subst hB0; exact new_cell _ _ _ 2
  have c3 : B0.cell? ⟨w0.heap.size, 3, none⟩ = some (.string s) := by subst hB0; exact new_cell _ _ _ 3
  have HB0 := Lib.hid hB0
  clear hB0
  have HS := Lib.hid (fun W => cname_any s W hs)
  generalize nameB s = bN at HS Hr
  obtain ⟨ba, hba⟩ : ∃ b, decide ((0 : Int) ≤ at_) = b := ⟨_, rfl⟩
  rw [hba] at Hr
  obtain ⟨q0, hq0⟩ : ∃ b, decide ((1 : Int) ≤ n) = b := ⟨_, rfl⟩
  rw [hq0] at Hr
  obtain ⟨q1, hq1⟩ : ∃ b, decide (n ≤ (3 : Int)) = b := ⟨_, rfl⟩
  rw [hq1] at Hr
  clear hs _hn2
  cases q0
  · cases q1
    · cases bN
      · go_enter Tryd.func62, Tryd.ntmps62
        go_wp2_with fail
        rw [← HB0.out]
        refine wp_region_rv 8 GQ (kindV []) (by kernel_rfl) (by kernel_rfl) GQ.trans GQ.refl (GQ.start _) (kindV_mono _) ?_
        simp only [List.take_succ_cons, List.take_zero, List.drop_succ_cons, List.drop_zero]
        iterate 8 (refine rv_det (by kernel_rfl) rfl (by intro w hG hH; obtain ⟨n, rfl⟩ := hG; go_simp; first | done | with_reducible rfl) ?_; simp only [Act.put, List.setIfInBounds_toArray, List.set_cons_zero, List.set_cons_succ])
        refine rv_nil (fun w hG hH => ?_)
        obtain ⟨n, rfl⟩ := hG
        clear hH
        go_wp2_with fail
        refine (HS.out _).mono ?_
        rintro e _ ⟨rfl, rfl⟩
        go_wp2_with fail
        go_ret
        exact ⟨ret_eq (by rw [Hr.out]; rfl), K.drewN _⟩
      · cases ba
        · go_enter Tryd.func62, Tryd.ntmps62
          go_wp2_with fail
          rw [← HB0.out]
          refine wp_region_rv 8 GQ (kindV []) (by kernel_rfl) (by kernel_rfl) GQ.trans GQ.refl (GQ.start _) (kindV_mono _) ?_
          simp only [List.take_succ_cons, List.take_zero, List.drop_succ_cons, List.drop_zero]
          iterate 8 (refine rv_det (by kernel_rfl) rfl (by intro w hG hH; obtain ⟨n, rfl⟩ := hG; go_simp; first | done | with_reducible rfl) ?_; simp only [Act.put, List.setIfInBounds_toArray, List.set_cons_zero, List.set_cons_succ])
          refine rv_nil (fun w hG hH => ?_)
          obtain ⟨n, rfl⟩ := hG
          clear hH
          go_wp2_with fail
          refine (HS.out _).mono ?_
          rintro e _ ⟨rfl, rfl⟩
          go_wp2_with fail
          go_ret
          exact ⟨ret_eq (by rw [Hr.out]; rfl), K.drewN _⟩
        · go_enter Tryd.func62, Tryd.ntmps62
          go_wp2_with fail
          rw [← HB0.out]
          refine wp_region_rv 8 GQ (kindV []) (by kernel_rfl) (by kernel_rfl) GQ.trans GQ.refl (GQ.start _) (kindV_mono _) ?_
          simp only [List.take_succ_cons, List.take_zero, List.drop_succ_cons, List.drop_zero]
          iterate 8 (refine rv_det (by kernel_rfl) rfl (by intro w hG hH; obtain ⟨n, rfl⟩ := hG; go_simp; first | done | with_reducible rfl) ?_; simp only [Act.put, List.setIfInBounds_toArray, List.set_cons_zero, List.set_cons_succ])
          refine rv_nil (fun w hG hH => ?_)
          obtain ⟨n, rfl⟩ := hG
          clear hH
          go_wp2_with fail
          refine (HS.out _).mono ?_
          rintro e _ ⟨rfl, rfl⟩
          go_wp2_with fail
          go_ret
          exact ⟨ret_eq (by rw [Hr.out]; rfl), K.drewN _⟩
    · cases bN
      · go_enter Tryd.func62, Tryd.ntmps62
        go_wp2_with fail
        rw [← HB0.out]
        refine wp_region_rv 8 GQ (kindV []) (by kernel_rfl) (by kernel_rfl) GQ.trans GQ.refl (GQ.start _) (kindV_mono _) ?_
        simp only [List.take_succ_cons, List.take_zero, List.drop_succ_cons, List.drop_zero]
        iterate 8 (refine rv_det (by kernel_rfl) rfl (by intro w hG hH; obtain ⟨n, rfl⟩ := hG; go_simp; first | done | with_reducible rfl) ?_; simp only [Act.put, List.setIfInBounds_toArray, List.set_cons_zero, List.set_cons_succ])
        refine rv_nil (fun w hG hH => ?_)
        obtain ⟨n, rfl⟩ := hG
        clear hH
        go_wp2_with fail
        refine (HS.out _).mono ?_
        rintro e _ ⟨rfl, rfl⟩
        go_wp2_with fail
        go_ret
        exact ⟨ret_eq (by rw [Hr.out]; rfl), K.drewN _⟩
      · cases ba
        · go_enter Tryd.func62, Tryd.ntmps62
          go_wp2_with fail
          rw [← HB0.out]
          refine wp_region_rv 8 GQ (kindV []) (by kernel_rfl) (by kernel_rfl) GQ.trans GQ.refl (GQ.start _) (kindV_mono _) ?_
          simp only [List.take_succ_cons, List.take_zero, List.drop_succ_cons, List.drop_zero]
          iterate 8 (refine rv_det (by kernel_rfl) rfl (by intro w hG hH; obtain ⟨n, rfl⟩ := hG; go_simp; first | done | with_reducible rfl) ?_; simp only [Act.put, List.setIfInBounds_toArray, List.set_cons_zero, List.set_cons_succ])
          refine rv_nil (fun w hG hH => ?_)
          obtain ⟨n, rfl⟩ := hG
          clear hH
          go_wp2_with fail
          refine (HS.out _).mono ?_
          rintro e _ ⟨rfl, rfl⟩
          go_wp2_with fail
          go_ret
          exact ⟨ret_eq (by rw [Hr.out]; rfl), K.drewN _⟩
        · go_enter Tryd.func62, Tryd.ntmps62
          go_wp2_with fail
          rw [← HB0.out]
          refine wp_region_rv 8 GQ (kindV []) (by kernel_rfl) (by kernel_rfl) GQ.trans GQ.refl (GQ.start _) (kindV_mono _) ?_
          simp only [List.take_succ_cons, List.take_zero, List.drop_succ_cons, List.drop_zero]
          iterate 8 (refine rv_det (by kernel_rfl) rfl (by intro w hG hH; obtain ⟨n, rfl⟩ := hG; go_simp; first | done | with_reducible rfl) ?_; simp only [Act.put, List.setIfInBounds_toArray, List.set_cons_zero, List.set_cons_succ])
          refine rv_nil (fun w hG hH => ?_)
          obtain ⟨n, rfl⟩ := hG
          clear hH
          go_wp2_with fail
          refine (HS.out _).mono ?_
          rintro e _ ⟨rfl, rfl⟩
          go_wp2_with fail
          go_ret
          exact ⟨ret_eq (by rw [Hr.out]; rfl), K.drewN _⟩
  · cases q1
    · cases bN
      · go_enter Tryd.func62, Tryd.ntmps62
        go_wp2_with fail
        rw [← HB0.out]
        refine wp_region_rv 8 GQ (kindV []) (by kernel_rfl) (by kernel_rfl) GQ.trans GQ.refl (GQ.start _) (kindV_mono _) ?_
        simp only [List.take_succ_cons, List.take_zero, List.drop_succ_cons, List.drop_zero]
        iterate 8 (refine rv_det (by kernel_rfl) rfl (by intro w hG hH; obtain ⟨n, rfl⟩ := hG; go_simp; first | done | with_reducible rfl) ?_; simp only [Act.put, List.setIfInBounds_toArray, List.set_cons_zero, List.set_cons_succ])
        refine rv_nil (fun w hG hH => ?_)
        obtain ⟨n, rfl⟩ := hG
        clear hH
        go_wp2_with fail
        refine (HS.out _).mono ?_
        rintro e _ ⟨rfl, rfl⟩
        go_wp2_with fail
        go_ret
        exact ⟨ret_eq (by rw [Hr.out]; rfl), K.drewN _⟩
      · cases ba
        · go_enter Tryd.func62, Tryd.ntmps62
          go_wp2_with fail
          rw [← HB0.out]
          refine wp_region_rv 8 GQ (kindV []) (by kernel_rfl) (by kernel_rfl) GQ.trans GQ.refl (GQ.start _) (kindV_mono _) ?_
          simp only [List.take_succ_cons, List.take_zero, List.drop_succ_cons, List.drop_zero]
          iterate 8 (refine rv_det (by kernel_rfl) rfl (by intro w hG hH; obtain ⟨n, rfl⟩ := hG; go_simp; first | done | with_reducible rfl) ?_; simp only [Act.put, List.setIfInBounds_toArray, List.set_cons_zero, List.set_cons_succ])
          refine rv_nil (fun w hG hH => ?_)
          obtain ⟨n, rfl⟩ := hG
          clear hH
          go_wp2_with fail
          refine (HS.out _).mono ?_
          rintro e _ ⟨rfl, rfl⟩
          go_wp2_with fail
          go_ret
          exact ⟨ret_eq (by rw [Hr.out]; rfl), K.drewN _⟩
        · go_enter Tryd.func62, Tryd.ntmps62
          go_wp2_with fail
          rw [← HB0.out]
          refine wp_region_rv 8 GQ (kindV []) (by kernel_rfl) (by kernel_rfl) GQ.trans GQ.refl (GQ.start _) (kindV_mono _) ?_
          simp only [List.take_succ_cons, List.take_zero, List.drop_succ_cons, List.drop_zero]
          iterate 8 (refine rv_det (by kernel_rfl) rfl (by intro w hG hH; obtain ⟨n, rfl⟩ := hG; go_simp; first | done | with_reducible rfl) ?_; simp only [Act.put, List.setIfInBounds_toArray, List.set_cons_zero, List.set_cons_succ])
          refine rv_nil (fun w hG hH => ?_)
          obtain ⟨n, rfl⟩ := hG
          clear hH
          go_wp2_with fail
          refine (HS.out _).mono ?_
          rintro e _ ⟨rfl, rfl⟩
          go_wp2_with fail
          go_ret
          exact ⟨ret_eq (by rw [Hr.out]; rfl), K.drewN _⟩
    · cases bN
      · go_enter Tryd.func62, Tryd.ntmps62
        go_wp2_with fail
        rw [← HB0.out]
        refine wp_region_rv 8 GQ (kindV []) (by kernel_rfl) (by kernel_rfl) GQ.trans GQ.refl (GQ.start _) (kindV_mono _) ?_
        simp only [List.take_succ_cons, List.take_zero, List.drop_succ_cons, List.drop_zero]
        iterate 8 (refine rv_det (by kernel_rfl) rfl (by intro w hG hH; obtain ⟨n, rfl⟩ := hG; go_simp; first | done | with_reducible rfl) ?_; simp only [Act.put, List.setIfInBounds_toArray, List.set_cons_zero, List.set_cons_succ])
        refine rv_nil (fun w hG hH => ?_)
        obtain ⟨n, rfl⟩ := hG
        clear hH
        go_wp2_with fail
        refine (HS.out _).mono ?_
        rintro e _ ⟨rfl, rfl⟩
        go_wp2_with fail
        go_ret
        exact ⟨ret_eq (by rw [Hr.out]; rfl), K.drewN _⟩
      · cases ba
        · go_enter Tryd.func62, Tryd.ntmps62
          go_wp2_with fail
          rw [← HB0.out]
          refine wp_region_rv 8 GQ (kindV []) (by kernel_rfl) (by kernel_rfl) GQ.trans GQ.refl (GQ.start _) (kindV_mono _) ?_
          simp only [List.take_succ_cons, List.take_zero, List.drop_succ_cons, List.drop_zero]
          iterate 8 (refine rv_det (by kernel_rfl) rfl (by intro w hG hH; obtain ⟨n, rfl⟩ := hG; go_simp; first | done | with_reducible rfl) ?_; simp only [Act.put, List.setIfInBounds_toArray, List.set_cons_zero, List.set_cons_succ])
          refine rv_nil (fun w hG hH => ?_)
          obtain ⟨n, rfl⟩ := hG
          clear hH
          go_wp2_with fail
          refine (HS.out _).mono ?_
          rintro e _ ⟨rfl, rfl⟩
          go_wp2_with fail
          go_ret
          exact ⟨ret_eq (by rw [Hr.out]; rfl), K.drewN _⟩
        · go_enter Tryd.func62, Tryd.ntmps62
          go_wp2_with fail
          rw [← HB0.out]
          refine wp_region_rv 8 GQ (kindV []) (by kernel_rfl) (by kernel_rfl) GQ.trans GQ.refl (GQ.start _) (kindV_mono _) ?_
          simp only [List.take_succ_cons, List.take_zero, List.drop_succ_cons, List.drop_zero]
          iterate 8 (refine rv_det (by kernel_rfl) rfl (by intro w hG hH; obtain ⟨n, rfl⟩ := hG; go_simp; first | done | with_reducible rfl) ?_; simp only [Act.put, List.setIfInBounds_toArray, List.set_cons_zero, List.set_cons_succ])
          refine rv_nil (fun w hG hH => ?_)
          obtain ⟨n, rfl⟩ := hG
          clear hH
          go_wp2_with fail
          refine (HS.out _).mono ?_
          rintro e _ ⟨rfl, rfl⟩
          go_wp2_with fail
          go_ret
          exact ⟨ret_eq (by rw [Hr.out]; rfl), K.drewN _⟩

set_option maxRecDepth 100000 in
set_option maxHeartbeats 4000000 in
theorem fields_16 (at_ n : Int) (s : ByteArray) (la : Option Addr) (ll lc : Nat) (w : World) (_hs : s.size ≤ 9223372036854775807) (_hn2 : n ≤ 9223372036854775807) :
    Calls Tryd.prog 62 #[.agg #[.int .u8 16, .int .i64 at_, .int .i64 n, .string s, .slice la ll lc]] w fun e w' => e = .returned (.bool (fieldsB 16 at_ n s)) ∧ KB F0 w w' := by
  obtain ⟨w0, rfl⟩ : ∃ w0, w0 = w := ⟨_, rfl⟩
  have Hr : Hid (fieldsB 16 at_ n s = (emptyB s && ((n == 0) || (n == 1)) && decide (0 ≤ at_) && true && true)) := Lib.hid (by
    show (emptyB s && (decide ((0 : Int) ≤ n) && decide (n ≤ (1 : Int))) && decide (0 ≤ at_) && true && true) = _
    rw [eq01])
  obtain ⟨B0, hB0⟩ : ∃ B0, B0 = (w0.alloc (.cells #[.int .u8 16, .int .i64 at_, .int .i64 n, .string s, .slice la ll lc] 25)) := ⟨_, rfl⟩
  have K : KB F0 w0 B0 := by subst hB0; exact (KB.refl _ _).alloc _
  have c0 : B0.cell? ⟨w0.heap.size, 0, none⟩ = some (.int .u8 16) := by subst hB0; exact new_cell _ _ _ 0
  have c1 : B0.cell? ⟨w0.heap.size, 1, none⟩ = some (.int .i64 at_) := by subst hB0; exact new_cell _ _ _ 1
  have c2 : B0.cell? ⟨w0.heap.size, 2, none⟩ = some (.int .i64 n) := by subst hB0; exact new_cell _ _ _ 2
  have c3 : B0.cell? ⟨w0.heap.size, 3, none⟩ = some (.string s) := by subst hB0; exact new_cell _ _ _ 3
  have HB0 := Lib.hid hB0
  clear hB0
  have tE : s.toList.isEmpty = emptyB s := rfl
  generalize emptyB s = bE at tE Hr
  obtain ⟨ba, hba⟩ : ∃ b, decide ((0 : Int) ≤ at_) = b := ⟨_, rfl⟩
  rw [hba] at Hr
  obtain ⟨q0, hq0⟩ : ∃ b, (n == 0) = b := ⟨_, rfl⟩
  rw [hq0] at Hr
  obtain ⟨q1, hq1⟩ : ∃ b, (n == 1) = b := ⟨_, rfl⟩
  rw [hq1] at Hr
  clear _hs _hn2
  cases q0
  · cases q1
    · cases bE
      · go_enter Tryd.func62, Tryd.ntmps62
        go_wp2_with fail
        rw [← HB0.out]
        refine wp_region_rv 8 GQ (kindV []) (by kernel_rfl) (by kernel_rfl) GQ.trans GQ.refl (GQ.start _) (kindV_mono _) ?_
        simp only [List.take_succ_cons, List.take_zero, List.drop_succ_cons, List.drop_zero]
        iterate 8 (refine rv_det (by kernel_rfl) rfl (by intro w hG hH; obtain ⟨n, rfl⟩ := hG; go_simp; first | done | with_reducible rfl) ?_; simp only [Act.put, List.setIfInBounds_toArray, List.set_cons_zero, List.set_cons_succ])
        refine rv_nil (fun w hG hH => ?_)
        obtain ⟨n, rfl⟩ := hG
        clear hH
        go_wp2_with fail
        go_ret
        exact ⟨ret_eq (by rw [Hr.out]; rfl), K.drewN _⟩
      · cases ba
        · go_enter Tryd.func62, Tryd.ntmps62
          go_wp2_with fail
          rw [← HB0.out]
          refine wp_region_rv 8 GQ (kindV []) (by kernel_rfl) (by kernel_rfl) GQ.trans GQ.refl (GQ.start _) (kindV_mono _) ?_
          simp only [List.take_succ_cons, List.take_zero, List.drop_succ_cons, List.drop_zero]
          iterate 8 (refine rv_det (by kernel_rfl) rfl (by intro w hG hH; obtain ⟨n, rfl⟩ := hG; go_simp; first | done | with_reducible rfl) ?_; simp only [Act.put, List.setIfInBounds_toArray, List.set_cons_zero, List.set_cons_succ])
          refine rv_nil (fun w hG hH => ?_)
          obtain ⟨n, rfl⟩ := hG
          clear hH
          go_wp2_with fail
          go_ret
          exact ⟨ret_eq (by rw [Hr.out]; rfl), K.drewN _⟩
        · go_enter Tryd.func62, Tryd.ntmps62
          go_wp2_with fail
          rw [← HB0.out]
          refine wp_region_rv 8 GQ (kindV []) (by kernel_rfl) (by kernel_rfl) GQ.trans GQ.refl (GQ.start _) (kindV_mono _) ?_
          simp only [List.take_succ_cons, List.take_zero, List.drop_succ_cons, List.drop_zero]
          iterate 8 (refine rv_det (by kernel_rfl) rfl (by intro w hG hH; obtain ⟨n, rfl⟩ := hG; go_simp; first | done | with_reducible rfl) ?_; simp only [Act.put, List.setIfInBounds_toArray, List.set_cons_zero, List.set_cons_succ])
          refine rv_nil (fun w hG hH => ?_)
          obtain ⟨n, rfl⟩ := hG
          clear hH
          go_wp2_with fail
          go_ret
          exact ⟨ret_eq (by rw [Hr.out]; rfl), K.drewN _⟩
    · cases bE
      · go_enter Tryd.func62, Tryd.ntmps62
        go_wp2_with fail
        rw [← HB0.out]
        refine wp_region_rv 8 GQ (kindV []) (by kernel_rfl) (by kernel_rfl) GQ.trans GQ.refl (GQ.start _) (kindV_mono _) ?_
        simp only [List.take_succ_cons, List.take_zero, List.drop_succ_cons, List.drop_zero]
        iterate 8 (refine rv_det (by kernel_rfl) rfl (by intro w hG hH; obtain ⟨n, rfl⟩ := hG; go_simp; first | done | with_reducible rfl) ?_; simp only [Act.put, List.setIfInBounds_toArray, List.set_cons_zero, List.set_cons_succ])
        refine rv_nil (fun w hG hH => ?_)
        obtain ⟨n, rfl⟩ := hG
        clear hH
        go_wp2_with fail
        go_ret
        exact ⟨ret_eq (by rw [Hr.out]; rfl), K.drewN _⟩
      · cases ba
        · go_enter Tryd.func62, Tryd.ntmps62
          go_wp2_with fail
          rw [← HB0.out]
          refine wp_region_rv 8 GQ (kindV []) (by kernel_rfl) (by kernel_rfl) GQ.trans GQ.refl (GQ.start _) (kindV_mono _) ?_
          simp only [List.take_succ_cons, List.take_zero, List.drop_succ_cons, List.drop_zero]
          iterate 8 (refine rv_det (by kernel_rfl) rfl (by intro w hG hH; obtain ⟨n, rfl⟩ := hG; go_simp; first | done | with_reducible rfl) ?_; simp only [Act.put, List.setIfInBounds_toArray, List.set_cons_zero, List.set_cons_succ])
          refine rv_nil (fun w hG hH => ?_)
          obtain ⟨n, rfl⟩ := hG
          clear hH
          go_wp2_with fail
          go_ret
          exact ⟨ret_eq (by rw [Hr.out]; rfl), K.drewN _⟩
        · go_enter Tryd.func62, Tryd.ntmps62
          go_wp2_with fail
          rw [← HB0.out]
          refine wp_region_rv 8 GQ (kindV []) (by kernel_rfl) (by kernel_rfl) GQ.trans GQ.refl (GQ.start _) (kindV_mono _) ?_
          simp only [List.take_succ_cons, List.take_zero, List.drop_succ_cons, List.drop_zero]
          iterate 8 (refine rv_det (by kernel_rfl) rfl (by intro w hG hH; obtain ⟨n, rfl⟩ := hG; go_simp; first | done | with_reducible rfl) ?_; simp only [Act.put, List.setIfInBounds_toArray, List.set_cons_zero, List.set_cons_succ])
          refine rv_nil (fun w hG hH => ?_)
          obtain ⟨n, rfl⟩ := hG
          clear hH
          go_wp2_with fail
          go_ret
          exact ⟨ret_eq (by rw [Hr.out]; rfl), K.drewN _⟩
  · cases q1
    · cases bE
      · go_enter Tryd.func62, Tryd.ntmps62
        go_wp2_with fail
        rw [← HB0.out]
        refine wp_region_rv 8 GQ (kindV []) (by kernel_rfl) (by kernel_rfl) GQ.trans GQ.refl (GQ.start _) (kindV_mono _) ?_
        simp only [List.take_succ_cons, List.take_zero, List.drop_succ_cons, List.drop_zero]
        iterate 8 (refine rv_det (by kernel_rfl) rfl (by intro w hG hH; obtain ⟨n, rfl⟩ := hG; go_simp; first | done | with_reducible rfl) ?_; simp only [Act.put, List.setIfInBounds_toArray, List.set_cons_zero, List.set_cons_succ])
        refine rv_nil (fun w hG hH => ?_)
        obtain ⟨n, rfl⟩ := hG
        clear hH
        go_wp2_with fail
        go_ret
        exact ⟨ret_eq (by rw [Hr.out]; rfl), K.drewN _⟩
      · cases ba
        · go_enter Tryd.func62, Tryd.ntmps62
          go_wp2_with fail
          rw [← HB0.out]
          refine wp_region_rv 8 GQ (kindV []) (by kernel_rfl) (by kernel_rfl) GQ.trans GQ.refl (GQ.start _) (kindV_mono _) ?_
          simp only [List.take_succ_cons, List.take_zero, List.drop_succ_cons, List.drop_zero]
          iterate 8 (refine rv_det (by kernel_rfl) rfl (by intro w hG hH; obtain ⟨n, rfl⟩ := hG; go_simp; first | done | with_reducible rfl) ?_; simp only [Act.put, List.setIfInBounds_toArray, List.set_cons_zero, List.set_cons_succ])
          refine rv_nil (fun w hG hH => ?_)
          obtain ⟨n, rfl⟩ := hG
          clear hH
          go_wp2_with fail
          go_ret
          exact ⟨ret_eq (by rw [Hr.out]; rfl), K.drewN _⟩
        · go_enter Tryd.func62, Tryd.ntmps62
          go_wp2_with fail
          rw [← HB0.out]
          refine wp_region_rv 8 GQ (kindV []) (by kernel_rfl) (by kernel_rfl) GQ.trans GQ.refl (GQ.start _) (kindV_mono _) ?_
          simp only [List.take_succ_cons, List.take_zero, List.drop_succ_cons, List.drop_zero]
          iterate 8 (refine rv_det (by kernel_rfl) rfl (by intro w hG hH; obtain ⟨n, rfl⟩ := hG; go_simp; first | done | with_reducible rfl) ?_; simp only [Act.put, List.setIfInBounds_toArray, List.set_cons_zero, List.set_cons_succ])
          refine rv_nil (fun w hG hH => ?_)
          obtain ⟨n, rfl⟩ := hG
          clear hH
          go_wp2_with fail
          go_ret
          exact ⟨ret_eq (by rw [Hr.out]; rfl), K.drewN _⟩
    · cases bE
      · go_enter Tryd.func62, Tryd.ntmps62
        go_wp2_with fail
        rw [← HB0.out]
        refine wp_region_rv 8 GQ (kindV []) (by kernel_rfl) (by kernel_rfl) GQ.trans GQ.refl (GQ.start _) (kindV_mono _) ?_
        simp only [List.take_succ_cons, List.take_zero, List.drop_succ_cons, List.drop_zero]
        iterate 8 (refine rv_det (by kernel_rfl) rfl (by intro w hG hH; obtain ⟨n, rfl⟩ := hG; go_simp; first | done | with_reducible rfl) ?_; simp only [Act.put, List.setIfInBounds_toArray, List.set_cons_zero, List.set_cons_succ])
        refine rv_nil (fun w hG hH => ?_)
        obtain ⟨n, rfl⟩ := hG
        clear hH
        go_wp2_with fail
        go_ret
        exact ⟨ret_eq (by rw [Hr.out]; rfl), K.drewN _⟩
      · cases ba
        · go_enter Tryd.func62, Tryd.ntmps62
          go_wp2_with fail
          rw [← HB0.out]
          refine wp_region_rv 8 GQ (kindV []) (by kernel_rfl) (by kernel_rfl) GQ.trans GQ.refl (GQ.start _) (kindV_mono _) ?_
          simp only [List.take_succ_cons, List.take_zero, List.drop_succ_cons, List.drop_zero]
          iterate 8 (refine rv_det (by kernel_rfl) rfl (by intro w hG hH; obtain ⟨n, rfl⟩ := hG; go_simp; first | done | with_reducible rfl) ?_; simp only [Act.put, List.setIfInBounds_toArray, List.set_cons_zero, List.set_cons_succ])
          refine rv_nil (fun w hG hH => ?_)
          obtain ⟨n, rfl⟩ := hG
          clear hH
          go_wp2_with fail
          go_ret
          exact ⟨ret_eq (by rw [Hr.out]; rfl), K.drewN _⟩
        · go_enter Tryd.func62, Tryd.ntmps62
          go_wp2_with fail
          rw [← HB0.out]
          refine wp_region_rv 8 GQ (kindV []) (by kernel_rfl) (by kernel_rfl) GQ.trans GQ.refl (GQ.start _) (kindV_mono _) ?_
          simp only [List.take_succ_cons, List.take_zero, List.drop_succ_cons, List.drop_zero]
          iterate 8 (refine rv_det (by kernel_rfl) rfl (by intro w hG hH; obtain ⟨n, rfl⟩ := hG; go_simp; first | done | with_reducible rfl) ?_; simp only [Act.put, List.setIfInBounds_toArray, List.set_cons_zero, List.set_cons_succ])
          refine rv_nil (fun w hG hH => ?_)
          obtain ⟨n, rfl⟩ := hG
          clear hH
          go_wp2_with fail
          go_ret
          exact ⟨ret_eq (by rw [Hr.out]; rfl), K.drewN _⟩

end Go.Proofs.YtjefoojkgocinaaDoor

namespace Go.Proofs.YtjefoojkgocinaaDoor
open Go.RowKit
set_option maxRecDepth 100000 in
set_option maxHeartbeats 4000000 in
theorem fields_24 (at_ n : Int) (s : ByteArray) (la : Option Addr) (ll lc : Nat) (w : World) (_hs : s.size ≤ 9223372036854775807) (hn2 : n ≤ 9223372036854775807) :
    Calls Tryd.prog 62 #[.agg #[.int .u8 24, .int .i64 at_, .int .i64 n, .string s, .slice la ll lc]] w fun e w' => e = .returned (.bool (fieldsB 24 at_ n s)) ∧ KB F0 w w' := by
  obtain ⟨w0, rfl⟩ : ∃ w0, w0 = w := ⟨_, rfl⟩
  have Hr : Hid (fieldsB 24 at_ n s = (emptyB s && decide ((0 : Int) ≤ n) && decide (0 ≤ at_) && true && true)) := Lib.hid (by
    show (emptyB s && (decide ((0 : Int) ≤ n) && decide (n ≤ (9223372036854775807 : Int))) && decide (0 ≤ at_) && true && true) = _
    simp only [show decide (n ≤ (9223372036854775807 : Int)) = true by simpa using hn2, Bool.and_true])
  obtain ⟨B0, hB0⟩ : ∃ B0, B0 = (w0.alloc (.cells #[.int .u8 24, .int .i64 at_, .int .i64 n, .string s, .slice la ll lc] 25)) := ⟨_, rfl⟩
  have K : KB F0 w0 B0 := by subst hB0; exact (KB.refl _ _).alloc _
  have c0 : B0.cell? ⟨w0.heap.size, 0, none⟩ = some (.int .u8 24) := by subst hB0; exact new_cell _ _ _ 0
  have c1 : B0.cell? ⟨w0.heap.size, 1, none⟩ = some (.int .i64 at_) := by subst hB0; exact new_cell _ _ _ 1
  have c2 : B0.cell? ⟨w0.heap.size, 2, none⟩ = some (.int .i64 n) := by subst hB0; exact new_cell _ _ _ 2
  have c3 : B0.cell? ⟨w0.heap.size, 3, none⟩ = some (.string s) := by subst hB0; exact new_cell _ _ _ 3
  have HB0 := Lib.hid hB0
  clear hB0
  have tE : s.toList.isEmpty = emptyB s := rfl
  generalize emptyB s = bE at tE Hr
  obtain ⟨ba, hba⟩ : ∃ b, decide ((0 : Int) ≤ at_) = b := ⟨_, rfl⟩
  rw [hba] at Hr
  obtain ⟨q0, hq0⟩ : ∃ b, decide ((0 : Int) ≤ n) = b := ⟨_, rfl⟩
  rw [hq0] at Hr
  clear _hs hn2
  cases q0
  · cases bE
    · go_enter Tryd.func62, Tryd.ntmps62
      go_wp2_with fail
      rw [← HB0.out]
      refine wp_region_rv 8 GQ (kindV []) (by kernel_rfl) (by kernel_rfl) GQ.trans GQ.refl (GQ.start _) (kindV_mono _) ?_
      simp only [List.take_succ_cons, List.take_zero, List.drop_succ_cons, List.drop_zero]
      iterate 8 (refine rv_det (by kernel_rfl) rfl (by intro w hG hH; obtain ⟨n, rfl⟩ := hG; go_simp; first | done | with_reducible rfl) ?_; simp only [Act.put, List.setIfInBounds_toArray, List.set_cons_zero, List.set_cons_succ])
      refine rv_nil (fun w hG hH => ?_)
      obtain ⟨n, rfl⟩ := hG
      clear hH
      go_wp2_with fail
      go_ret
      exact ⟨ret_eq (by rw [Hr.out]; rfl), K.drewN _⟩
    · cases ba
      · go_enter Tryd.func62, Tryd.ntmps62
        go_wp2_with fail
        rw [← HB0.out]
        refine wp_region_rv 8 GQ (kindV []) (by kernel_rfl) (by kernel_rfl) GQ.trans GQ.refl (GQ.start _) (kindV_mono _) ?_
        simp only [List.take_succ_cons, List.take_zero, List.drop_succ_cons, List.drop_zero]
        iterate 8 (refine rv_det (by kernel_rfl) rfl (by intro w hG hH; obtain ⟨n, rfl⟩ := hG; go_simp; first | done | with_reducible rfl) ?_; simp only [Act.put, List.setIfInBounds_toArray, List.set_cons_zero, List.set_cons_succ])
        refine rv_nil (fun w hG hH => ?_)
        obtain ⟨n, rfl⟩ := hG
        clear hH
        go_wp2_with fail
        go_ret
        exact ⟨ret_eq (by rw [Hr.out]; rfl), K.drewN _⟩
      · go_enter Tryd.func62, Tryd.ntmps62
        go_wp2_with fail
        rw [← HB0.out]
        refine wp_region_rv 8 GQ (kindV []) (by kernel_rfl) (by kernel_rfl) GQ.trans GQ.refl (GQ.start _) (kindV_mono _) ?_
        simp only [List.take_succ_cons, List.take_zero, List.drop_succ_cons, List.drop_zero]
        iterate 8 (refine rv_det (by kernel_rfl) rfl (by intro w hG hH; obtain ⟨n, rfl⟩ := hG; go_simp; first | done | with_reducible rfl) ?_; simp only [Act.put, List.setIfInBounds_toArray, List.set_cons_zero, List.set_cons_succ])
        refine rv_nil (fun w hG hH => ?_)
        obtain ⟨n, rfl⟩ := hG
        clear hH
        go_wp2_with fail
        go_ret
        exact ⟨ret_eq (by rw [Hr.out]; rfl), K.drewN _⟩
  · cases bE
    · go_enter Tryd.func62, Tryd.ntmps62
      go_wp2_with fail
      rw [← HB0.out]
      refine wp_region_rv 8 GQ (kindV []) (by kernel_rfl) (by kernel_rfl) GQ.trans GQ.refl (GQ.start _) (kindV_mono _) ?_
      simp only [List.take_succ_cons, List.take_zero, List.drop_succ_cons, List.drop_zero]
      iterate 8 (refine rv_det (by kernel_rfl) rfl (by intro w hG hH; obtain ⟨n, rfl⟩ := hG; go_simp; first | done | with_reducible rfl) ?_; simp only [Act.put, List.setIfInBounds_toArray, List.set_cons_zero, List.set_cons_succ])
      refine rv_nil (fun w hG hH => ?_)
      obtain ⟨n, rfl⟩ := hG
      clear hH
      go_wp2_with fail
      go_ret
      exact ⟨ret_eq (by rw [Hr.out]; rfl), K.drewN _⟩
    · cases ba
      · go_enter Tryd.func62, Tryd.ntmps62
        go_wp2_with fail
        rw [← HB0.out]
        refine wp_region_rv 8 GQ (kindV []) (by kernel_rfl) (by kernel_rfl) GQ.trans GQ.refl (GQ.start _) (kindV_mono _) ?_
        simp only [List.take_succ_cons, List.take_zero, List.drop_succ_cons, List.drop_zero]
        iterate 8 (refine rv_det (by kernel_rfl) rfl (by intro w hG hH; obtain ⟨n, rfl⟩ := hG; go_simp; first | done | with_reducible rfl) ?_; simp only [Act.put, List.setIfInBounds_toArray, List.set_cons_zero, List.set_cons_succ])
        refine rv_nil (fun w hG hH => ?_)
        obtain ⟨n, rfl⟩ := hG
        clear hH
        go_wp2_with fail
        go_ret
        exact ⟨ret_eq (by rw [Hr.out]; rfl), K.drewN _⟩
      · go_enter Tryd.func62, Tryd.ntmps62
        go_wp2_with fail
        rw [← HB0.out]
        refine wp_region_rv 8 GQ (kindV []) (by kernel_rfl) (by kernel_rfl) GQ.trans GQ.refl (GQ.start _) (kindV_mono _) ?_
        simp only [List.take_succ_cons, List.take_zero, List.drop_succ_cons, List.drop_zero]
        iterate 8 (refine rv_det (by kernel_rfl) rfl (by intro w hG hH; obtain ⟨n, rfl⟩ := hG; go_simp; first | done | with_reducible rfl) ?_; simp only [Act.put, List.setIfInBounds_toArray, List.set_cons_zero, List.set_cons_succ])
        refine rv_nil (fun w hG hH => ?_)
        obtain ⟨n, rfl⟩ := hG
        clear hH
        go_wp2_with fail
        go_ret
        exact ⟨ret_eq (by rw [Hr.out]; rfl), K.drewN _⟩

set_option maxRecDepth 100000 in
set_option maxHeartbeats 4000000 in
theorem fields_25 (at_ n : Int) (s : ByteArray) (la : Option Addr) (ll lc : Nat) (w : World) (_hs : s.size ≤ 9223372036854775807) (_hn2 : n ≤ 9223372036854775807) :
    Calls Tryd.prog 62 #[.agg #[.int .u8 25, .int .i64 at_, .int .i64 n, .string s, .slice la ll lc]] w fun e w' => e = .returned (.bool (fieldsB 25 at_ n s)) ∧ KB F0 w w' := by
  obtain ⟨w0, rfl⟩ : ∃ w0, w0 = w := ⟨_, rfl⟩
  have Hr : Hid (fieldsB 25 at_ n s = (emptyB s && ((n == 0) || (n == 1)) && decide (0 ≤ at_) && true && true)) := Lib.hid (by
    show (emptyB s && (decide ((0 : Int) ≤ n) && decide (n ≤ (1 : Int))) && decide (0 ≤ at_) && true && true) = _
    rw [eq01])
  obtain ⟨B0, hB0⟩ : ∃ B0, B0 = (w0.alloc (.cells #[.int .u8 25, .int .i64 at_, .int .i64 n, .string s, .slice la ll lc] 25)) := ⟨_, rfl⟩
  have K : KB F0 w0 B0 := by subst hB0; exact (KB.refl _ _).alloc _
  have c0 : B0.cell? ⟨w0.heap.size, 0, none⟩ = some (.int .u8 25) := by subst hB0; exact new_cell _ _ _ 0
  have c1 : B0.cell? ⟨w0.heap.size, 1, none⟩ = some (.int .i64 at_) := by subst hB0; exact new_cell _ _ _ 1
  have c2 : B0.cell? ⟨w0.heap.size, 2, none⟩ = some (.int .i64 n) := by subst hB0; exact new_cell _ _ _ 2
  have c3 : B0.cell? ⟨w0.heap.size, 3, none⟩ = some (.string s) := by subst hB0; exact new_cell _ _ _ 3
  have HB0 := Lib.hid hB0
  clear hB0
  have tE : s.toList.isEmpty = emptyB s := rfl
  generalize emptyB s = bE at tE Hr
  obtain ⟨ba, hba⟩ : ∃ b, decide ((0 : Int) ≤ at_) = b := ⟨_, rfl⟩
  rw [hba] at Hr
  obtain ⟨q0, hq0⟩ : ∃ b, (n == 0) = b := ⟨_, rfl⟩
  rw [hq0] at Hr
  obtain ⟨q1, hq1⟩ : ∃ b, (n == 1) = b := ⟨_, rfl⟩
  rw [hq1] at Hr
  clear _hs _hn2
  cases q0
  · cases q1
    · cases bE
      · go_enter Tryd.func62, Tryd.ntmps62
        go_wp2_with fail
        rw [← HB0.out]
        refine wp_region_rv 8 GQ (kindV []) (by kernel_rfl) (by kernel_rfl) GQ.trans GQ.refl (GQ.start _) (kindV_mono _) ?_
        simp only [List.take_succ_cons, List.take_zero, List.drop_succ_cons, List.drop_zero]
        iterate 8 (refine rv_det (by kernel_rfl) rfl (by intro w hG hH; obtain ⟨n, rfl⟩ := hG; go_simp; first | done | with_reducible rfl) ?_; simp only [Act.put, List.setIfInBounds_toArray, List.set_cons_zero, List.set_cons_succ])
        refine rv_nil (fun w hG hH => ?_)
        obtain ⟨n, rfl⟩ := hG
        clear hH
        go_wp2_with fail
        go_ret
        exact ⟨ret_eq (by rw [Hr.out]; rfl), K.drewN _⟩
      · cases ba
        · go_enter Tryd.func62, Tryd.ntmps62
          go_wp2_with fail
          rw [← HB0.out]
          refine wp_region_rv 8 GQ (kindV []) (by kernel_rfl) (by kernel_rfl) GQ.trans GQ.refl (GQ.start _) (kindV_mono _) ?_
          simp only [List.take_succ_cons, List.take_zero, List.drop_succ_cons, List.drop_zero]
          iterate 8 (refine rv_det (by kernel_rfl) rfl (by intro w hG hH; obtain ⟨n, rfl⟩ := hG; go_simp; first | done | with_reducible rfl) ?_; simp only [Act.put, List.setIfInBounds_toArray, List.set_cons_zero, List.set_cons_succ])
          refine rv_nil (fun w hG hH => ?_)
          obtain ⟨n, rfl⟩ := hG
          clear hH
          go_wp2_with fail
          go_ret
          exact ⟨ret_eq (by rw [Hr.out]; rfl), K.drewN _⟩
        · go_enter Tryd.func62, Tryd.ntmps62
          go_wp2_with fail
          rw [← HB0.out]
          refine wp_region_rv 8 GQ (kindV []) (by kernel_rfl) (by kernel_rfl) GQ.trans GQ.refl (GQ.start _) (kindV_mono _) ?_
          simp only [List.take_succ_cons, List.take_zero, List.drop_succ_cons, List.drop_zero]
          iterate 8 (refine rv_det (by kernel_rfl) rfl (by intro w hG hH; obtain ⟨n, rfl⟩ := hG; go_simp; first | done | with_reducible rfl) ?_; simp only [Act.put, List.setIfInBounds_toArray, List.set_cons_zero, List.set_cons_succ])
          refine rv_nil (fun w hG hH => ?_)
          obtain ⟨n, rfl⟩ := hG
          clear hH
          go_wp2_with fail
          go_ret
          exact ⟨ret_eq (by rw [Hr.out]; rfl), K.drewN _⟩
    · cases bE
      · go_enter Tryd.func62, Tryd.ntmps62
        go_wp2_with fail
        rw [← HB0.out]
        refine wp_region_rv 8 GQ (kindV []) (by kernel_rfl) (by kernel_rfl) GQ.trans GQ.refl (GQ.start _) (kindV_mono _) ?_
        simp only [List.take_succ_cons, List.take_zero, List.drop_succ_cons, List.drop_zero]
        iterate 8 (refine rv_det (by kernel_rfl) rfl (by intro w hG hH; obtain ⟨n, rfl⟩ := hG; go_simp; first | done | with_reducible rfl) ?_; simp only [Act.put, List.setIfInBounds_toArray, List.set_cons_zero, List.set_cons_succ])
        refine rv_nil (fun w hG hH => ?_)
        obtain ⟨n, rfl⟩ := hG
        clear hH
        go_wp2_with fail
        go_ret
        exact ⟨ret_eq (by rw [Hr.out]; rfl), K.drewN _⟩
      · cases ba
        · go_enter Tryd.func62, Tryd.ntmps62
          go_wp2_with fail
          rw [← HB0.out]
          refine wp_region_rv 8 GQ (kindV []) (by kernel_rfl) (by kernel_rfl) GQ.trans GQ.refl (GQ.start _) (kindV_mono _) ?_
          simp only [List.take_succ_cons, List.take_zero, List.drop_succ_cons, List.drop_zero]
          iterate 8 (refine rv_det (by kernel_rfl) rfl (by intro w hG hH; obtain ⟨n, rfl⟩ := hG; go_simp; first | done | with_reducible rfl) ?_; simp only [Act.put, List.setIfInBounds_toArray, List.set_cons_zero, List.set_cons_succ])
          refine rv_nil (fun w hG hH => ?_)
          obtain ⟨n, rfl⟩ := hG
          clear hH
          go_wp2_with fail
          go_ret
          exact ⟨ret_eq (by rw [Hr.out]; rfl), K.drewN _⟩
        · go_enter Tryd.func62, Tryd.ntmps62
          go_wp2_with fail
          rw [← HB0.out]
          refine wp_region_rv 8 GQ (kindV []) (by kernel_rfl) (by kernel_rfl) GQ.trans GQ.refl (GQ.start _) (kindV_mono _) ?_
          simp only [List.take_succ_cons, List.take_zero, List.drop_succ_cons, List.drop_zero]
          iterate 8 (refine rv_det (by kernel_rfl) rfl (by intro w hG hH; obtain ⟨n, rfl⟩ := hG; go_simp; first | done | with_reducible rfl) ?_; simp only [Act.put, List.setIfInBounds_toArray, List.set_cons_zero, List.set_cons_succ])
          refine rv_nil (fun w hG hH => ?_)
          obtain ⟨n, rfl⟩ := hG
          clear hH
          go_wp2_with fail
          go_ret
          exact ⟨ret_eq (by rw [Hr.out]; rfl), K.drewN _⟩
  · cases q1
    · cases bE
      · go_enter Tryd.func62, Tryd.ntmps62
        go_wp2_with fail
        rw [← HB0.out]
        refine wp_region_rv 8 GQ (kindV []) (by kernel_rfl) (by kernel_rfl) GQ.trans GQ.refl (GQ.start _) (kindV_mono _) ?_
        simp only [List.take_succ_cons, List.take_zero, List.drop_succ_cons, List.drop_zero]
        iterate 8 (refine rv_det (by kernel_rfl) rfl (by intro w hG hH; obtain ⟨n, rfl⟩ := hG; go_simp; first | done | with_reducible rfl) ?_; simp only [Act.put, List.setIfInBounds_toArray, List.set_cons_zero, List.set_cons_succ])
        refine rv_nil (fun w hG hH => ?_)
        obtain ⟨n, rfl⟩ := hG
        clear hH
        go_wp2_with fail
        go_ret
        exact ⟨ret_eq (by rw [Hr.out]; rfl), K.drewN _⟩
      · cases ba
        · go_enter Tryd.func62, Tryd.ntmps62
          go_wp2_with fail
          rw [← HB0.out]
          refine wp_region_rv 8 GQ (kindV []) (by kernel_rfl) (by kernel_rfl) GQ.trans GQ.refl (GQ.start _) (kindV_mono _) ?_
          simp only [List.take_succ_cons, List.take_zero, List.drop_succ_cons, List.drop_zero]
          iterate 8 (refine rv_det (by kernel_rfl) rfl (by intro w hG hH; obtain ⟨n, rfl⟩ := hG; go_simp; first | done | with_reducible rfl) ?_; simp only [Act.put, List.setIfInBounds_toArray, List.set_cons_zero, List.set_cons_succ])
          refine rv_nil (fun w hG hH => ?_)
          obtain ⟨n, rfl⟩ := hG
          clear hH
          go_wp2_with fail
          go_ret
          exact ⟨ret_eq (by rw [Hr.out]; rfl), K.drewN _⟩
        · go_enter Tryd.func62, Tryd.ntmps62
          go_wp2_with fail
          rw [← HB0.out]
          refine wp_region_rv 8 GQ (kindV []) (by kernel_rfl) (by kernel_rfl) GQ.trans GQ.refl (GQ.start _) (kindV_mono _) ?_
          simp only [List.take_succ_cons, List.take_zero, List.drop_succ_cons, List.drop_zero]
          iterate 8 (refine rv_det (by kernel_rfl) rfl (by intro w hG hH; obtain ⟨n, rfl⟩ := hG; go_simp; first | done | with_reducible rfl) ?_; simp only [Act.put, List.setIfInBounds_toArray, List.set_cons_zero, List.set_cons_succ])
          refine rv_nil (fun w hG hH => ?_)
          obtain ⟨n, rfl⟩ := hG
          clear hH
          go_wp2_with fail
          go_ret
          exact ⟨ret_eq (by rw [Hr.out]; rfl), K.drewN _⟩
    · cases bE
      · go_enter Tryd.func62, Tryd.ntmps62
        go_wp2_with fail
        rw [← HB0.out]
        refine wp_region_rv 8 GQ (kindV []) (by kernel_rfl) (by kernel_rfl) GQ.trans GQ.refl (GQ.start _) (kindV_mono _) ?_
        simp only [List.take_succ_cons, List.take_zero, List.drop_succ_cons, List.drop_zero]
        iterate 8 (refine rv_det (by kernel_rfl) rfl (by intro w hG hH; obtain ⟨n, rfl⟩ := hG; go_simp; first | done | with_reducible rfl) ?_; simp only [Act.put, List.setIfInBounds_toArray, List.set_cons_zero, List.set_cons_succ])
        refine rv_nil (fun w hG hH => ?_)
        obtain ⟨n, rfl⟩ := hG
        clear hH
        go_wp2_with fail
        go_ret
        exact ⟨ret_eq (by rw [Hr.out]; rfl), K.drewN _⟩
      · cases ba
        · go_enter Tryd.func62, Tryd.ntmps62
          go_wp2_with fail
          rw [← HB0.out]
          refine wp_region_rv 8 GQ (kindV []) (by kernel_rfl) (by kernel_rfl) GQ.trans GQ.refl (GQ.start _) (kindV_mono _) ?_
          simp only [List.take_succ_cons, List.take_zero, List.drop_succ_cons, List.drop_zero]
          iterate 8 (refine rv_det (by kernel_rfl) rfl (by intro w hG hH; obtain ⟨n, rfl⟩ := hG; go_simp; first | done | with_reducible rfl) ?_; simp only [Act.put, List.setIfInBounds_toArray, List.set_cons_zero, List.set_cons_succ])
          refine rv_nil (fun w hG hH => ?_)
          obtain ⟨n, rfl⟩ := hG
          clear hH
          go_wp2_with fail
          go_ret
          exact ⟨ret_eq (by rw [Hr.out]; rfl), K.drewN _⟩
        · go_enter Tryd.func62, Tryd.ntmps62
          go_wp2_with fail
          rw [← HB0.out]
          refine wp_region_rv 8 GQ (kindV []) (by kernel_rfl) (by kernel_rfl) GQ.trans GQ.refl (GQ.start _) (kindV_mono _) ?_
          simp only [List.take_succ_cons, List.take_zero, List.drop_succ_cons, List.drop_zero]
          iterate 8 (refine rv_det (by kernel_rfl) rfl (by intro w hG hH; obtain ⟨n, rfl⟩ := hG; go_simp; first | done | with_reducible rfl) ?_; simp only [Act.put, List.setIfInBounds_toArray, List.set_cons_zero, List.set_cons_succ])
          refine rv_nil (fun w hG hH => ?_)
          obtain ⟨n, rfl⟩ := hG
          clear hH
          go_wp2_with fail
          go_ret
          exact ⟨ret_eq (by rw [Hr.out]; rfl), K.drewN _⟩

set_option maxRecDepth 100000 in
set_option maxHeartbeats 4000000 in
theorem fields_29 (at_ n : Int) (s : ByteArray) (la : Option Addr) (ll lc : Nat) (w : World) (_hs : s.size ≤ 9223372036854775807) (_hn2 : n ≤ 9223372036854775807) :
    Calls Tryd.prog 62 #[.agg #[.int .u8 29, .int .i64 at_, .int .i64 n, .string s, .slice la ll lc]] w fun e w' => e = .returned (.bool (fieldsB 29 at_ n s)) ∧ KB F0 w w' := by
  obtain ⟨w0, rfl⟩ : ∃ w0, w0 = w := ⟨_, rfl⟩
  have Hr : Hid (fieldsB 29 at_ n s = (emptyB s && ((n == 0) || (n == 1)) && decide (0 ≤ at_) && true && true)) := Lib.hid (by
    show (emptyB s && (decide ((0 : Int) ≤ n) && decide (n ≤ (1 : Int))) && decide (0 ≤ at_) && true && true) = _
    rw [eq01])
  obtain ⟨B0, hB0⟩ : ∃ B0, B0 = (w0.alloc (.cells #[.int .u8 29, .int .i64 at_, .int .i64 n, .string s, .slice la ll lc] 25)) := ⟨_, rfl⟩
  have K : KB F0 w0 B0 := by subst hB0; exact (KB.refl _ _).alloc _
  have c0 : B0.cell? ⟨w0.heap.size, 0, none⟩ = some (.int .u8 29) := by subst hB0; exact new_cell _ _ _ 0
  have c1 : B0.cell? ⟨w0.heap.size, 1, none⟩ = some (.int .i64 at_) := by subst hB0; exact new_cell _ _ _ 1
  have c2 : B0.cell? ⟨w0.heap.size, 2, none⟩ = some (.int .i64 n) := by subst hB0; exact new_cell _ _ _ 2
  have c3 : B0.cell? ⟨w0.heap.size, 3, none⟩ = some (.string s) := by subst hB0; exact new_cell _ _ _ 3
  have HB0 := Lib.hid hB0
  clear hB0
  have tE : s.toList.isEmpty = emptyB s := rfl
  generalize emptyB s = bE at tE Hr
  obtain ⟨ba, hba⟩ : ∃ b, decide ((0 : Int) ≤ at_) = b := ⟨_, rfl⟩
  rw [hba] at Hr
  obtain ⟨q0, hq0⟩ : ∃ b, (n == 0) = b := ⟨_, rfl⟩
  rw [hq0] at Hr
  obtain ⟨q1, hq1⟩ : ∃ b, (n == 1) = b := ⟨_, rfl⟩
  rw [hq1] at Hr
  clear _hs _hn2
  cases q0
  · cases q1
    · cases bE
      · go_enter Tryd.func62, Tryd.ntmps62
        go_wp2_with fail
        rw [← HB0.out]
        refine wp_region_rv 8 GQ (kindV []) (by kernel_rfl) (by kernel_rfl) GQ.trans GQ.refl (GQ.start _) (kindV_mono _) ?_
        simp only [List.take_succ_cons, List.take_zero, List.drop_succ_cons, List.drop_zero]
        iterate 8 (refine rv_det (by kernel_rfl) rfl (by intro w hG hH; obtain ⟨n, rfl⟩ := hG; go_simp; first | done | with_reducible rfl) ?_; simp only [Act.put, List.setIfInBounds_toArray, List.set_cons_zero, List.set_cons_succ])
        refine rv_nil (fun w hG hH => ?_)
        obtain ⟨n, rfl⟩ := hG
        clear hH
        go_wp2_with fail
        go_ret
        exact ⟨ret_eq (by rw [Hr.out]; rfl), K.drewN _⟩
      · cases ba
        · go_enter Tryd.func62, Tryd.ntmps62
          go_wp2_with fail
          rw [← HB0.out]
          refine wp_region_rv 8 GQ (kindV []) (by kernel_rfl) (by kernel_rfl) GQ.trans GQ.refl (GQ.start _) (kindV_mono _) ?_
          simp only [List.take_succ_cons, List.take_zero, List.drop_succ_cons, List.drop_zero]
          iterate 8 (refine rv_det (by kernel_rfl) rfl (by intro w hG hH; obtain ⟨n, rfl⟩ := hG; go_simp; first | done | with_reducible rfl) ?_; simp only [Act.put, List.setIfInBounds_toArray, List.set_cons_zero, List.set_cons_succ])
          refine rv_nil (fun w hG hH => ?_)
          obtain ⟨n, rfl⟩ := hG
          clear hH
          go_wp2_with fail
          go_ret
          exact ⟨ret_eq (by rw [Hr.out]; rfl), K.drewN _⟩
        · go_enter Tryd.func62, Tryd.ntmps62
          go_wp2_with fail
          rw [← HB0.out]
          refine wp_region_rv 8 GQ (kindV []) (by kernel_rfl) (by kernel_rfl) GQ.trans GQ.refl (GQ.start _) (kindV_mono _) ?_
          simp only [List.take_succ_cons, List.take_zero, List.drop_succ_cons, List.drop_zero]
          iterate 8 (refine rv_det (by kernel_rfl) rfl (by intro w hG hH; obtain ⟨n, rfl⟩ := hG; go_simp; first | done | with_reducible rfl) ?_; simp only [Act.put, List.setIfInBounds_toArray, List.set_cons_zero, List.set_cons_succ])
          refine rv_nil (fun w hG hH => ?_)
          obtain ⟨n, rfl⟩ := hG
          clear hH
          go_wp2_with fail
          go_ret
          exact ⟨ret_eq (by rw [Hr.out]; rfl), K.drewN _⟩
    · cases bE
      · go_enter Tryd.func62, Tryd.ntmps62
        go_wp2_with fail
        rw [← HB0.out]
        refine wp_region_rv 8 GQ (kindV []) (by kernel_rfl) (by kernel_rfl) GQ.trans GQ.refl (GQ.start _) (kindV_mono _) ?_
        simp only [List.take_succ_cons, List.take_zero, List.drop_succ_cons, List.drop_zero]
        iterate 8 (refine rv_det (by kernel_rfl) rfl (by intro w hG hH; obtain ⟨n, rfl⟩ := hG; go_simp; first | done | with_reducible rfl) ?_; simp only [Act.put, List.setIfInBounds_toArray, List.set_cons_zero, List.set_cons_succ])
        refine rv_nil (fun w hG hH => ?_)
        obtain ⟨n, rfl⟩ := hG
        clear hH
        go_wp2_with fail
        go_ret
        exact ⟨ret_eq (by rw [Hr.out]; rfl), K.drewN _⟩
      · cases ba
        · go_enter Tryd.func62, Tryd.ntmps62
          go_wp2_with fail
          rw [← HB0.out]
          refine wp_region_rv 8 GQ (kindV []) (by kernel_rfl) (by kernel_rfl) GQ.trans GQ.refl (GQ.start _) (kindV_mono _) ?_
          simp only [List.take_succ_cons, List.take_zero, List.drop_succ_cons, List.drop_zero]
          iterate 8 (refine rv_det (by kernel_rfl) rfl (by intro w hG hH; obtain ⟨n, rfl⟩ := hG; go_simp; first | done | with_reducible rfl) ?_; simp only [Act.put, List.setIfInBounds_toArray, List.set_cons_zero, List.set_cons_succ])
          refine rv_nil (fun w hG hH => ?_)
          obtain ⟨n, rfl⟩ := hG
          clear hH
          go_wp2_with fail
          go_ret
          exact ⟨ret_eq (by rw [Hr.out]; rfl), K.drewN _⟩
        · go_enter Tryd.func62, Tryd.ntmps62
          go_wp2_with fail
          rw [← HB0.out]
          refine wp_region_rv 8 GQ (kindV []) (by kernel_rfl) (by kernel_rfl) GQ.trans GQ.refl (GQ.start _) (kindV_mono _) ?_
          simp only [List.take_succ_cons, List.take_zero, List.drop_succ_cons, List.drop_zero]
          iterate 8 (refine rv_det (by kernel_rfl) rfl (by intro w hG hH; obtain ⟨n, rfl⟩ := hG; go_simp; first | done | with_reducible rfl) ?_; simp only [Act.put, List.setIfInBounds_toArray, List.set_cons_zero, List.set_cons_succ])
          refine rv_nil (fun w hG hH => ?_)
          obtain ⟨n, rfl⟩ := hG
          clear hH
          go_wp2_with fail
          go_ret
          exact ⟨ret_eq (by rw [Hr.out]; rfl), K.drewN _⟩
  · cases q1
    · cases bE
      · go_enter Tryd.func62, Tryd.ntmps62
        go_wp2_with fail
        rw [← HB0.out]
        refine wp_region_rv 8 GQ (kindV []) (by kernel_rfl) (by kernel_rfl) GQ.trans GQ.refl (GQ.start _) (kindV_mono _) ?_
        simp only [List.take_succ_cons, List.take_zero, List.drop_succ_cons, List.drop_zero]
        iterate 8 (refine rv_det (by kernel_rfl) rfl (by intro w hG hH; obtain ⟨n, rfl⟩ := hG; go_simp; first | done | with_reducible rfl) ?_; simp only [Act.put, List.setIfInBounds_toArray, List.set_cons_zero, List.set_cons_succ])
        refine rv_nil (fun w hG hH => ?_)
        obtain ⟨n, rfl⟩ := hG
        clear hH
        go_wp2_with fail
        go_ret
        exact ⟨ret_eq (by rw [Hr.out]; rfl), K.drewN _⟩
      · cases ba
        · go_enter Tryd.func62, Tryd.ntmps62
          go_wp2_with fail
          rw [← HB0.out]
          refine wp_region_rv 8 GQ (kindV []) (by kernel_rfl) (by kernel_rfl) GQ.trans GQ.refl (GQ.start _) (kindV_mono _) ?_
          simp only [List.take_succ_cons, List.take_zero, List.drop_succ_cons, List.drop_zero]
          iterate 8 (refine rv_det (by kernel_rfl) rfl (by intro w hG hH; obtain ⟨n, rfl⟩ := hG; go_simp; first | done | with_reducible rfl) ?_; simp only [Act.put, List.setIfInBounds_toArray, List.set_cons_zero, List.set_cons_succ])
          refine rv_nil (fun w hG hH => ?_)
          obtain ⟨n, rfl⟩ := hG
          clear hH
          go_wp2_with fail
          go_ret
          exact ⟨ret_eq (by rw [Hr.out]; rfl), K.drewN _⟩
        · go_enter Tryd.func62, Tryd.ntmps62
          go_wp2_with fail
          rw [← HB0.out]
          refine wp_region_rv 8 GQ (kindV []) (by kernel_rfl) (by kernel_rfl) GQ.trans GQ.refl (GQ.start _) (kindV_mono _) ?_
          simp only [List.take_succ_cons, List.take_zero, List.drop_succ_cons, List.drop_zero]
          iterate 8 (refine rv_det (by kernel_rfl) rfl (by intro w hG hH; obtain ⟨n, rfl⟩ := hG; go_simp; first | done | with_reducible rfl) ?_; simp only [Act.put, List.setIfInBounds_toArray, List.set_cons_zero, List.set_cons_succ])
          refine rv_nil (fun w hG hH => ?_)
          obtain ⟨n, rfl⟩ := hG
          clear hH
          go_wp2_with fail
          go_ret
          exact ⟨ret_eq (by rw [Hr.out]; rfl), K.drewN _⟩
    · cases bE
      · go_enter Tryd.func62, Tryd.ntmps62
        go_wp2_with fail
        rw [← HB0.out]
        refine wp_region_rv 8 GQ (kindV []) (by kernel_rfl) (by kernel_rfl) GQ.trans GQ.refl (GQ.start _) (kindV_mono _) ?_
        simp only [List.take_succ_cons, List.take_zero, List.drop_succ_cons, List.drop_zero]
        iterate 8 (refine rv_det (by kernel_rfl) rfl (by intro w hG hH; obtain ⟨n, rfl⟩ := hG; go_simp; first | done | with_reducible rfl) ?_; simp only [Act.put, List.setIfInBounds_toArray, List.set_cons_zero, List.set_cons_succ])
        refine rv_nil (fun w hG hH => ?_)
        obtain ⟨n, rfl⟩ := hG
        clear hH
        go_wp2_with fail
        go_ret
        exact ⟨ret_eq (by rw [Hr.out]; rfl), K.drewN _⟩
      · cases ba
        · go_enter Tryd.func62, Tryd.ntmps62
          go_wp2_with fail
          rw [← HB0.out]
          refine wp_region_rv 8 GQ (kindV []) (by kernel_rfl) (by kernel_rfl) GQ.trans GQ.refl (GQ.start _) (kindV_mono _) ?_
          simp only [List.take_succ_cons, List.take_zero, List.drop_succ_cons, List.drop_zero]
          iterate 8 (refine rv_det (by kernel_rfl) rfl (by intro w hG hH; obtain ⟨n, rfl⟩ := hG; go_simp; first | done | with_reducible rfl) ?_; simp only [Act.put, List.setIfInBounds_toArray, List.set_cons_zero, List.set_cons_succ])
          refine rv_nil (fun w hG hH => ?_)
          obtain ⟨n, rfl⟩ := hG
          clear hH
          go_wp2_with fail
          go_ret
          exact ⟨ret_eq (by rw [Hr.out]; rfl), K.drewN _⟩
        · go_enter Tryd.func62, Tryd.ntmps62
          go_wp2_with fail
          rw [← HB0.out]
          refine wp_region_rv 8 GQ (kindV []) (by kernel_rfl) (by kernel_rfl) GQ.trans GQ.refl (GQ.start _) (kindV_mono _) ?_
          simp only [List.take_succ_cons, List.take_zero, List.drop_succ_cons, List.drop_zero]
          iterate 8 (refine rv_det (by kernel_rfl) rfl (by intro w hG hH; obtain ⟨n, rfl⟩ := hG; go_simp; first | done | with_reducible rfl) ?_; simp only [Act.put, List.setIfInBounds_toArray, List.set_cons_zero, List.set_cons_succ])
          refine rv_nil (fun w hG hH => ?_)
          obtain ⟨n, rfl⟩ := hG
          clear hH
          go_wp2_with fail
          go_ret
          exact ⟨ret_eq (by rw [Hr.out]; rfl), K.drewN _⟩

end Go.Proofs.YtjefoojkgocinaaDoor

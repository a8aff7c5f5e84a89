/- loanwordref03.fields at each kind of nodes. -/
import Derived.Test.YtjefoojkgocinaaDoorTreeM
namespace Go.Proofs.YtjefoojkgocinaaDoor
open Go.RowKit
set_option maxRecDepth 100000 in
set_option maxHeartbeats 4000000 in
theorem fields_0 (at_ n : Int) (s : ByteArray) (la : Option Addr) (ll lc : Nat) (w : World) (_hs : s.size ≤ 9223372036854775807) (_hn2 : n ≤ 9223372036854775807) :
    Calls Tryd.prog 62 #[.agg #[.int .u8 0, .int .i64 at_, .int .i64 n, .string s, .slice la ll lc]] w fun e w' => e = .returned (.bool (fieldsB 0 at_ n s)) ∧ KB F0 w w' := by
  obtain ⟨w0, rfl⟩ : ∃ w0, w0 = w := ⟨_, rfl⟩
  have Hr : Hid (fieldsB 0 at_ n s = (emptyB s && (n == 0) && decide (0 ≤ at_) && false && true)) := Lib.hid (by
    show (emptyB s && (decide ((0 : Int) ≤ n) && decide (n ≤ (0 : Int))) && decide (0 ≤ at_) && false && true) = _
    rw [eq00])
  obtain ⟨B0, hB0⟩ : ∃ B0, B0 = (w0.alloc (.cells #[.int .u8 0, .int .i64 at_, .int .i64 n, .string s, .slice la ll lc] 25)) := ⟨_, rfl⟩
  have K : KB F0 w0 B0 := by subst hB0; exact (KB.refl _ _).alloc _
  have c0 : B0.cell? ⟨w0.heap.size, 0, none⟩ = some (.int .u8 0) := by subst hB0; exact new_cell _ _ _ 0
  have c1 : B0.cell? ⟨w0.heap.size, 1, none⟩ = some (.int .i64 at_) := by subst hB0; exact new_cell _ _ _ 1
  have c2 : B0.cell? ⟨w0.heap.size, 2, none⟩ = some (.int .i64 n) := by subst hB0; exact new_cell _ _ _ 2
  have c3 : B0.cell? ⟨w0.heap.size, 3, none⟩ = some (.string s) := by subst hB0; exact new_cell _ _ _ 3
  have HB0 := Lib.hid hB0
  clear hB0
  have tE : s.toList.isEmpty = emptyB s := rfl
  generalize emptyB s = bE at tE Hr
  obtain ⟨ba, hba⟩ : ∃ b, decide ((0 : Int) ≤ at_) = b := ⟨_, rfl⟩
  rw [hba] at Hr
  obtain ⟨q0, hq0⟩ : ∃ b, (n == 0) = b := ⟨_, rfl⟩
  rw [hq0] at Hr
  clear _hs _hn2
  cases q0
  · cases bE
    · go_enter Tryd.func62, Tryd.ntmps62
      go_wp2_with fail
      rw [← HB0.out]
      refine wp_region_rv 8 GQ (kindV []) (by kernel_rfl) (by kernel_rfl) GQ.trans GQ.refl (GQ.start _) (kindV_mono _) ?_
      simp only [List.take_succ_cons, List.take_zero, List.drop_succ_cons, List.drop_zero]
      iterate 8 (refine rv_det (by kernel_rfl) rfl (by intro w hG hH; obtain ⟨n, rfl⟩ := hG; go_simp; first | done | with_reducible rfl) ?_; simp only [Act.put, List.setIfInBounds_toArray, List.set_cons_zero, List.set_cons_succ])
      refine rv_nil (fun w hG hH => ?_)
      obtain ⟨n, rfl⟩ := hG
      clear hH
      go_wp2_with fail
      go_ret
      exact ⟨ret_eq (by rw [Hr.out]; rfl), K.drewN _⟩
    · cases ba
      · go_enter Tryd.func62, Tryd.ntmps62
        go_wp2_with fail
        rw [← HB0.out]
        refine wp_region_rv 8 GQ (kindV []) (by kernel_rfl) (by kernel_rfl) GQ.trans GQ.refl (GQ.start _) (kindV_mono _) ?_
        simp only [List.take_succ_cons, List.take_zero, List.drop_succ_cons, List.drop_zero]
        iterate 8 (refine rv_det (by kernel_rfl) rfl (by intro w hG hH; obtain ⟨n, rfl⟩ := hG; go_simp; first | done | with_reducible rfl) ?_; simp only [Act.put, List.setIfInBounds_toArray, List.set_cons_zero, List.set_cons_succ])
        refine rv_nil (fun w hG hH => ?_)
        obtain ⟨n, rfl⟩ := hG
        clear hH
        go_wp2_with fail
        go_ret
        exact ⟨ret_eq (by rw [Hr.out]; rfl), K.drewN _⟩
      · go_enter Tryd.func62, Tryd.ntmps62
        go_wp2_with fail
        rw [← HB0.out]
        refine wp_region_rv 8 GQ (kindV []) (by kernel_rfl) (by kernel_rfl) GQ.trans GQ.refl (GQ.start _) (kindV_mono _) ?_
        simp only [List.take_succ_cons, List.take_zero, List.drop_succ_cons, List.drop_zero]
        iterate 8 (refine rv_det (by kernel_rfl) rfl (by intro w hG hH; obtain ⟨n, rfl⟩ := hG; go_simp; first | done | with_reducible rfl) ?_; simp only [Act.put, List.setIfInBounds_toArray, List.set_cons_zero, List.set_cons_succ])
        refine rv_nil (fun w hG hH => ?_)
        obtain ⟨n, rfl⟩ := hG
        clear hH
        go_wp2_with fail
        go_ret
        exact ⟨ret_eq (by rw [Hr.out]; rfl), K.drewN _⟩
  · cases bE
    · go_enter Tryd.func62, Tryd.ntmps62
      go_wp2_with fail
      rw [← HB0.out]
      refine wp_region_rv 8 GQ (kindV []) (by kernel_rfl) (by kernel_rfl) GQ.trans GQ.refl (GQ.start _) (kindV_mono _) ?_
      simp only [List.take_succ_cons, List.take_zero, List.drop_succ_cons, List.drop_zero]
      iterate 8 (refine rv_det (by kernel_rfl) rfl (by intro w hG hH; obtain ⟨n, rfl⟩ := hG; go_simp; first | done | with_reducible rfl) ?_; simp only [Act.put, List.setIfInBounds_toArray, List.set_cons_zero, List.set_cons_succ])
      refine rv_nil (fun w hG hH => ?_)
      obtain ⟨n, rfl⟩ := hG
      clear hH
      go_wp2_with fail
      go_ret
      exact ⟨ret_eq (by rw [Hr.out]; rfl), K.drewN _⟩
    · cases ba
      · go_enter Tryd.func62, Tryd.ntmps62
        go_wp2_with fail
        rw [← HB0.out]
        refine wp_region_rv 8 GQ (kindV []) (by kernel_rfl) (by kernel_rfl) GQ.trans GQ.refl (GQ.start _) (kindV_mono _) ?_
        simp only [List.take_succ_cons, List.take_zero, List.drop_succ_cons, List.drop_zero]
        iterate 8 (refine rv_det (by kernel_rfl) rfl (by intro w hG hH; obtain ⟨n, rfl⟩ := hG; go_simp; first | done | with_reducible rfl) ?_; simp only [Act.put, List.setIfInBounds_toArray, List.set_cons_zero, List.set_cons_succ])
        refine rv_nil (fun w hG hH => ?_)
        obtain ⟨n, rfl⟩ := hG
        clear hH
        go_wp2_with fail
        go_ret
        exact ⟨ret_eq (by rw [Hr.out]; rfl), K.drewN _⟩
      · go_enter Tryd.func62, Tryd.ntmps62
        go_wp2_with fail
        rw [← HB0.out]
        refine wp_region_rv 8 GQ (kindV []) (by kernel_rfl) (by kernel_rfl) GQ.trans GQ.refl (GQ.start _) (kindV_mono _) ?_
        simp only [List.take_succ_cons, List.take_zero, List.drop_succ_cons, List.drop_zero]
        iterate 8 (refine rv_det (by kernel_rfl) rfl (by intro w hG hH; obtain ⟨n, rfl⟩ := hG; go_simp; first | done | with_reducible rfl) ?_; simp only [Act.put, List.setIfInBounds_toArray, List.set_cons_zero, List.set_cons_succ])
        refine rv_nil (fun w hG hH => ?_)
        obtain ⟨n, rfl⟩ := hG
        clear hH
        go_wp2_with fail
        go_ret
        exact ⟨ret_eq (by rw [Hr.out]; rfl), K.drewN _⟩

set_option maxRecDepth 100000 in
set_option maxHeartbeats 4000000 in
theorem fields_1 (at_ n : Int) (s : ByteArray) (la : Option Addr) (ll lc : Nat) (w : World) (_hs : s.size ≤ 9223372036854775807) (_hn2 : n ≤ 9223372036854775807) :
    Calls Tryd.prog 62 #[.agg #[.int .u8 1, .int .i64 at_, .int .i64 n, .string s, .slice la ll lc]] w fun e w' => e = .returned (.bool (fieldsB 1 at_ n s)) ∧ KB F0 w w' := by
  obtain ⟨w0, rfl⟩ : ∃ w0, w0 = w := ⟨_, rfl⟩
  have Hr : Hid (fieldsB 1 at_ n s = (emptyB s && (n == 0) && decide (0 ≤ at_) && true && true)) := Lib.hid (by
    show (emptyB s && (decide ((0 : Int) ≤ n) && decide (n ≤ (0 : Int))) && decide (0 ≤ at_) && true && true) = _
    rw [eq00])
  obtain ⟨B0, hB0⟩ : ∃ B0, B0 = (w0.alloc (.cells #[.int .u8 1, .int .i64 at_, .int .i64 n, .string s, .slice la ll lc] 25)) := ⟨_, rfl⟩
  have K : KB F0 w0 B0 := by subst hB0; exact (KB.refl _ _).alloc _
  have c0 : B0.cell? ⟨w0.heap.size, 0, none⟩ = some (.int .u8 1) := by subst hB0; exact new_cell _ _ _ 0
  have c1 : B0.cell? ⟨w0.heap.size, 1, none⟩ = some (.int .i64 at_) := by subst hB0; exact new_cell _ _ _ 1
  have c2 : B0.cell? ⟨w0.heap.size, 2, none⟩ = some (.int .i64 n) := by subst hB0; exact new_cell _ _ _ 2
  have c3 : B0.cell? ⟨w0.heap.size, 3, none⟩ = some (.string s) := by subst hB0; exact new_cell _ _ _ 3
  have HB0 := Lib.hid hB0
  clear hB0
  have tE : s.toList.isEmpty = emptyB s := rfl
  generalize emptyB s = bE at tE Hr
  obtain ⟨ba, hba⟩ : ∃ b, decide ((0 : Int) ≤ at_) = b := ⟨_, rfl⟩
  rw [hba] at Hr
  obtain ⟨q0, hq0⟩ : ∃ b, (n == 0) = b := ⟨_, rfl⟩
  rw [hq0] at Hr
  clear _hs _hn2
  cases q0
  · cases bE
    · go_enter Tryd.func62, Tryd.ntmps62
      go_wp2_with fail
      rw [← HB0.out]
      refine wp_region_rv 8 GQ (kindV []) (by kernel_rfl) (by kernel_rfl) GQ.trans GQ.refl (GQ.start _) (kindV_mono _) ?_
      simp only [List.take_succ_cons, List.take_zero, List.drop_succ_cons, List.drop_zero]
      iterate 8 (refine rv_det (by kernel_rfl) rfl (by intro w hG hH; obtain ⟨n, rfl⟩ := hG; go_simp; first | done | with_reducible rfl) ?_; simp only [Act.put, List.setIfInBounds_toArray, List.set_cons_zero, List.set_cons_succ])
      refine rv_nil (fun w hG hH => ?_)
      obtain ⟨n, rfl⟩ := hG
      clear hH
      go_wp2_with fail
      go_ret
      exact ⟨ret_eq (by rw [Hr.out]; rfl), K.drewN _⟩
    · cases ba
      · go_enter Tryd.func62, Tryd.ntmps62
        go_wp2_with fail
        rw [← HB0.out]
        refine wp_region_rv 8 GQ (kindV []) (by kernel_rfl) (by kernel_rfl) GQ.trans GQ.refl (GQ.start _) (kindV_mono _) ?_
        simp only [List.take_succ_cons, List.take_zero, List.drop_succ_cons, List.drop_zero]
        iterate 8 (refine rv_det (by kernel_rfl) rfl (by intro w hG hH; obtain ⟨n, rfl⟩ := hG; go_simp; first | done | with_reducible rfl) ?_; simp only [Act.put, List.setIfInBounds_toArray, List.set_cons_zero, List.set_cons_succ])
        refine rv_nil (fun w hG hH => ?_)
        obtain ⟨n, rfl⟩ := hG
        clear hH
        go_wp2_with fail
        go_ret
        exact ⟨ret_eq (by rw [Hr.out]; rfl), K.drewN _⟩
      · go_enter Tryd.func62, Tryd.ntmps62
        go_wp2_with fail
        rw [← HB0.out]
        refine wp_region_rv 8 GQ (kindV []) (by kernel_rfl) (by kernel_rfl) GQ.trans GQ.refl (GQ.start _) (kindV_mono _) ?_
        simp only [List.take_succ_cons, List.take_zero, List.drop_succ_cons, List.drop_zero]
        iterate 8 (refine rv_det (by kernel_rfl) rfl (by intro w hG hH; obtain ⟨n, rfl⟩ := hG; go_simp; first | done | with_reducible rfl) ?_; simp only [Act.put, List.setIfInBounds_toArray, List.set_cons_zero, List.set_cons_succ])
        refine rv_nil (fun w hG hH => ?_)
        obtain ⟨n, rfl⟩ := hG
        clear hH
        go_wp2_with fail
        go_ret
        exact ⟨ret_eq (by rw [Hr.out]; rfl), K.drewN _⟩
  · cases bE
    · go_enter Tryd.func62, Tryd.ntmps62
      go_wp2_with fail
      rw [← HB0.out]
      refine wp_region_rv 8 GQ (kindV []) (by kernel_rfl) (by kernel_rfl) GQ.trans GQ.refl (GQ.start _) (kindV_mono _) ?_
      simp only [List.take_succ_cons, List.take_zero, List.drop_succ_cons, List.drop_zero]
      iterate 8 (refine rv_det (by kernel_rfl) rfl (by intro w hG hH; obtain ⟨n, rfl⟩ := hG; go_simp; first | done | with_reducible rfl) ?_; simp only [Act.put, List.setIfInBounds_toArray, List.set_cons_zero, List.set_cons_succ])
      refine rv_nil (fun w hG hH => ?_)
      obtain ⟨n, rfl⟩ := hG
      clear hH
      go_wp2_with fail
      go_ret
      exact ⟨ret_eq (by rw [Hr.out]; rfl), K.drewN _⟩
    · cases ba
      · go_enter Tryd.func62, Tryd.ntmps62
        go_wp2_with fail
        rw [← HB0.out]
        refine wp_region_rv 8 GQ (kindV []) (by kernel_rfl) (by kernel_rfl) GQ.trans GQ.refl (GQ.start _) (kindV_mono _) ?_
        simp only [List.take_succ_cons, List.take_zero, List.drop_succ_cons, List.drop_zero]
        iterate 8 (refine rv_det (by kernel_rfl) rfl (by intro w hG hH; obtain ⟨n, rfl⟩ := hG; go_simp; first | done | with_reducible rfl) ?_; simp only [Act.put, List.setIfInBounds_toArray, List.set_cons_zero, List.set_cons_succ])
        refine rv_nil (fun w hG hH => ?_)
        obtain ⟨n, rfl⟩ := hG
        clear hH
        go_wp2_with fail
        go_ret
        exact ⟨ret_eq (by rw [Hr.out]; rfl), K.drewN _⟩
      · go_enter Tryd.func62, Tryd.ntmps62
        go_wp2_with fail
        rw [← HB0.out]
        refine wp_region_rv 8 GQ (kindV []) (by kernel_rfl) (by kernel_rfl) GQ.trans GQ.refl (GQ.start _) (kindV_mono _) ?_
        simp only [List.take_succ_cons, List.take_zero, List.drop_succ_cons, List.drop_zero]
        iterate 8 (refine rv_det (by kernel_rfl) rfl (by intro w hG hH; obtain ⟨n, rfl⟩ := hG; go_simp; first | done | with_reducible rfl) ?_; simp only [Act.put, List.setIfInBounds_toArray, List.set_cons_zero, List.set_cons_succ])
        refine rv_nil (fun w hG hH => ?_)
        obtain ⟨n, rfl⟩ := hG
        clear hH
        go_wp2_with fail
        go_ret
        exact ⟨ret_eq (by rw [Hr.out]; rfl), K.drewN _⟩

set_option maxRecDepth 100000 in
set_option maxHeartbeats 4000000 in
theorem fields_2 (at_ n : Int) (s : ByteArray) (la : Option Addr) (ll lc : Nat) (w : World) (hs : s.size ≤ 9223372036854775807) (_hn2 : n ≤ 9223372036854775807) :
    Calls Tryd.prog 62 #[.agg #[.int .u8 2, .int .i64 at_, .int .i64 n, .string s, .slice la ll lc]] w fun e w' => e = .returned (.bool (fieldsB 2 at_ n s)) ∧ KB F0 w w' := by
  obtain ⟨w0, rfl⟩ : ∃ w0, w0 = w := ⟨_, rfl⟩
  have Hr : Hid (fieldsB 2 at_ n s = (typeNameB s && (n == 0) && decide (0 ≤ at_) && true && true)) := Lib.hid (by
    show (typeNameB s && (decide ((0 : Int) ≤ n) && decide (n ≤ (0 : Int))) && decide (0 ≤ at_) && true && true) = _
    rw [eq00])
  obtain ⟨B0, hB0⟩ : ∃ B0, B0 = (w0.alloc (.cells #[.int .u8 2, .int .i64 at_, .int .i64 n, .string s, .slice la ll lc] 25)) := ⟨_, rfl⟩
  have K : KB F0 w0 B0 := by subst hB0; exact (KB.refl _ _).alloc _
  have c0 : B0.cell? ⟨w0.heap.size, 0, none⟩ = some (.int .u8 2) := by subst hB0; exact new_cell _ _ _ 0
  have c1 : B0.cell? ⟨w0.heap.size, 1, none⟩ = some (.int .i64 at_) := by subst hB0; exact new_cell _ _ _ 1
  have c2 : B0.cell? ⟨w0.heap.size, 2, none⟩ = some (.int .i64 n) := by subst hB0; exact new_cell _ _ _ 2
  have c3 : B0.cell? ⟨w0.heap.size, 3, none⟩ = some (.string s) := by subst hB0; exact new_cell _ _ _ 3
  have HB0 := Lib.hid hB0
  clear hB0
  have HS := Lib.hid (fun W => ctypeName_any s W hs)
  generalize typeNameB s = bN at HS Hr
  obtain ⟨ba, hba⟩ : ∃ b, decide ((0 : Int) ≤ at_) = b := ⟨_, rfl⟩
  rw [hba] at Hr
  obtain ⟨q0, hq0⟩ : ∃ b, (n == 0) = b := ⟨_, rfl⟩
  rw [hq0] at Hr
  clear hs _hn2
  cases q0
  · cases bN
    · go_enter Tryd.func62, Tryd.ntmps62
      go_wp2_with fail
      rw [← HB0.out]
      refine wp_region_rv 8 GQ (kindV []) (by kernel_rfl) (by kernel_rfl) GQ.trans GQ.refl (GQ.start _) (kindV_mono _) ?_
      simp only [List.take_succ_cons, List.take_zero, List.drop_succ_cons, List.drop_zero]
      iterate 8 (refine rv_det (by kernel_rfl) rfl (by intro w hG hH; obtain ⟨n, rfl⟩ := hG; go_simp; first | done | with_reducible rfl) ?_; simp only [Act.put, List.setIfInBounds_toArray, List.set_cons_zero, List.set_cons_succ])
      refine rv_nil (fun w hG hH => ?_)
      obtain ⟨n, rfl⟩ := hG
      clear hH
      go_wp2_with fail
      refine (HS.out _).mono ?_
      rintro e _ ⟨rfl, rfl⟩
      go_wp2_with fail
      go_ret
      exact ⟨ret_eq (by rw [Hr.out]; rfl), K.drewN _⟩
    · cases ba
      · go_enter Tryd.func62, Tryd.ntmps62
        go_wp2_with fail
        rw [← HB0.out]
        refine wp_region_rv 8 GQ (kindV []) (by kernel_rfl) (by kernel_rfl) GQ.trans GQ.refl (GQ.start _) (kindV_mono _) ?_
        simp only [List.take_succ_cons, List.take_zero, List.drop_succ_cons, List.drop_zero]
        iterate 8 (refine rv_det (by kernel_rfl) rfl (by intro w hG hH; obtain ⟨n, rfl⟩ := hG; go_simp; first | done | with_reducible rfl) ?_; simp only [Act.put, List.setIfInBounds_toArray, List.set_cons_zero, List.set_cons_succ])
        refine rv_nil (fun w hG hH => ?_)
        obtain ⟨n, rfl⟩ := hG
        clear hH
        go_wp2_with fail
        refine (HS.out _).mono ?_
        rintro e _ ⟨rfl, rfl⟩
        go_wp2_with fail
        go_ret
        exact ⟨ret_eq (by rw [Hr.out]; rfl), K.drewN _⟩
      · go_enter Tryd.func62, Tryd.ntmps62
        go_wp2_with fail
        rw [← HB0.out]
        refine wp_region_rv 8 GQ (kindV []) (by kernel_rfl) (by kernel_rfl) GQ.trans GQ.refl (GQ.start _) (kindV_mono _) ?_
        simp only [List.take_succ_cons, List.take_zero, List.drop_succ_cons, List.drop_zero]
        iterate 8 (refine rv_det (by kernel_rfl) rfl (by intro w hG hH; obtain ⟨n, rfl⟩ := hG; go_simp; first | done | with_reducible rfl) ?_; simp only [Act.put, List.setIfInBounds_toArray, List.set_cons_zero, List.set_cons_succ])
        refine rv_nil (fun w hG hH => ?_)
        obtain ⟨n, rfl⟩ := hG
        clear hH
        go_wp2_with fail
        refine (HS.out _).mono ?_
        rintro e _ ⟨rfl, rfl⟩
        go_wp2_with fail
        go_ret
        exact ⟨ret_eq (by rw [Hr.out]; rfl), K.drewN _⟩
  · cases bN
    · go_enter Tryd.func62, Tryd.ntmps62
      go_wp2_with fail
      rw [← HB0.out]
      refine wp_region_rv 8 GQ (kindV []) (by kernel_rfl) (by kernel_rfl) GQ.trans GQ.refl (GQ.start _) (kindV_mono _) ?_
      simp only [List.take_succ_cons, List.take_zero, List.drop_succ_cons, List.drop_zero]
      iterate 8 (refine rv_det (by kernel_rfl) rfl (by intro w hG hH; obtain ⟨n, rfl⟩ := hG; go_simp; first | done | with_reducible rfl) ?_; simp only [Act.put, List.setIfInBounds_toArray, List.set_cons_zero, List.set_cons_succ])
      refine rv_nil (fun w hG hH => ?_)
      obtain ⟨n, rfl⟩ := hG
      clear hH
      go_wp2_with fail
      refine (HS.out _).mono ?_
      rintro e _ ⟨rfl, rfl⟩
      go_wp2_with fail
      go_ret
      exact ⟨ret_eq (by rw [Hr.out]; rfl), K.drewN _⟩
    · cases ba
      · go_enter Tryd.func62, Tryd.ntmps62
        go_wp2_with fail
        rw [← HB0.out]
        refine wp_region_rv 8 GQ (kindV []) (by kernel_rfl) (by kernel_rfl) GQ.trans GQ.refl (GQ.start _) (kindV_mono _) ?_
        simp only [List.take_succ_cons, List.take_zero, List.drop_succ_cons, List.drop_zero]
        iterate 8 (refine rv_det (by kernel_rfl) rfl (by intro w hG hH; obtain ⟨n, rfl⟩ := hG; go_simp; first | done | with_reducible rfl) ?_; simp only [Act.put, List.setIfInBounds_toArray, List.set_cons_zero, List.set_cons_succ])
        refine rv_nil (fun w hG hH => ?_)
        obtain ⟨n, rfl⟩ := hG
        clear hH
        go_wp2_with fail
        refine (HS.out _).mono ?_
        rintro e _ ⟨rfl, rfl⟩
        go_wp2_with fail
        go_ret
        exact ⟨ret_eq (by rw [Hr.out]; rfl), K.drewN _⟩
      · go_enter Tryd.func62, Tryd.ntmps62
        go_wp2_with fail
        rw [← HB0.out]
        refine wp_region_rv 8 GQ (kindV []) (by kernel_rfl) (by kernel_rfl) GQ.trans GQ.refl (GQ.start _) (kindV_mono _) ?_
        simp only [List.take_succ_cons, List.take_zero, List.drop_succ_cons, List.drop_zero]
        iterate 8 (refine rv_det (by kernel_rfl) rfl (by intro w hG hH; obtain ⟨n, rfl⟩ := hG; go_simp; first | done | with_reducible rfl) ?_; simp only [Act.put, List.setIfInBounds_toArray, List.set_cons_zero, List.set_cons_succ])
        refine rv_nil (fun w hG hH => ?_)
        obtain ⟨n, rfl⟩ := hG
        clear hH
        go_wp2_with fail
        refine (HS.out _).mono ?_
        rintro e _ ⟨rfl, rfl⟩
        go_wp2_with fail
        go_ret
        exact ⟨ret_eq (by rw [Hr.out]; rfl), K.drewN _⟩

set_option maxRecDepth 100000 in
set_option maxHeartbeats 4000000 in
theorem fields_3 (at_ n : Int) (s : ByteArray) (la : Option Addr) (ll lc : Nat) (w : World) (hs : s.size ≤ 9223372036854775807) (_hn2 : n ≤ 9223372036854775807) :
    Calls Tryd.prog 62 #[.agg #[.int .u8 3, .int .i64 at_, .int .i64 n, .string s, .slice la ll lc]] w fun e w' => e = .returned (.bool (fieldsB 3 at_ n s)) ∧ KB F0 w w' := by
  obtain ⟨w0, rfl⟩ : ∃ w0, w0 = w := ⟨_, rfl⟩
  have Hr : Hid (fieldsB 3 at_ n s = (nameB s && (n == 0) && decide (0 ≤ at_) && true && true)) := Lib.hid (by
    show (nameB s && (decide ((0 : Int) ≤ n) && decide (n ≤ (0 : Int))) && decide (0 ≤ at_) && true && true) = _
    rw [eq00])
  obtain ⟨B0, hB0⟩ : ∃ B0, B0 = (w0.alloc (.cells #[.int .u8 3, .int .i64 at_, .int .i64 n, .string s, .slice la ll lc] 25)) := ⟨_, rfl⟩
  have K : KB F0 w0 B0 := by subst hB0; exact (KB.refl _ _).alloc _
  have c0 : B0.cell? ⟨w0.heap.size, 0, none⟩ = some (.int .u8 3) := by subst hB0; exact new_cell _ _ _ 0
  have c1 : B0.cell? ⟨w0.heap.size, 1, none⟩ = some (.int .i64 at_) := by subst hB0; exact new_cell _ _ _ 1
  have c2 : B0.cell? ⟨w0.heap.size, 2, none⟩ = some (.int .i64 n) := by subst hB0; exact new_cell _ _ _ 2
  have c3 : B0.cell? ⟨w0.heap.size, 3, none⟩ = some (.string s) := by subst hB0; exact new_cell _ _ _ 3
  have HB0 := Lib.hid hB0
  clear hB0
  have HS := Lib.hid (fun W => cname_any s W hs)
  generalize nameB s = bN at HS Hr
  obtain ⟨ba, hba⟩ : ∃ b, decide ((0 : Int) ≤ at_) = b := ⟨_, rfl⟩
  rw [hba] at Hr
  obtain ⟨q0, hq0⟩ : ∃ b, (n == 0) = b := ⟨_, rfl⟩
  rw [hq0] at Hr
  clear hs _hn2
  cases q0
  · cases bN
    · go_enter Tryd.func62, Tryd.ntmps62
      go_wp2_with fail
      rw [← HB0.out]
      refine wp_region_rv 8 GQ (kindV []) (by kernel_rfl) (by kernel_rfl) GQ.trans GQ.refl (GQ.start _) (kindV_mono _) ?_
      simp only [List.take_succ_cons, List.take_zero, List.drop_succ_cons, List.drop_zero]
      iterate 8 (refine rv_det (by kernel_rfl) rfl (by intro w hG hH; obtain ⟨n, rfl⟩ := hG; go_simp; first | done | with_reducible rfl) ?_; simp only [Act.put, List.setIfInBounds_toArray, List.set_cons_zero, List.set_cons_succ])
      refine rv_nil (fun w hG hH => ?_)
      obtain ⟨n, rfl⟩ := hG
      clear hH
      go_wp2_with fail
      refine (HS.out _).mono ?_
      rintro e _ ⟨rfl, rfl⟩
      go_wp2_with fail
      go_ret
      exact ⟨ret_eq (by rw [Hr.out]; rfl), K.drewN _⟩
    · cases ba
      · go_enter Tryd.func62, Tryd.ntmps62
        go_wp2_with fail
        rw [← HB0.out]
        refine wp_region_rv 8 GQ (kindV []) (by kernel_rfl) (by kernel_rfl) GQ.trans GQ.refl (GQ.start _) (kindV_mono _) ?_
        simp only [List.take_succ_cons, List.take_zero, List.drop_succ_cons, List.drop_zero]
        iterate 8 (refine rv_det (by kernel_rfl) rfl (by intro w hG hH; obtain ⟨n, rfl⟩ := hG; go_simp; first | done | with_reducible rfl) ?_; simp only [Act.put, List.setIfInBounds_toArray, List.set_cons_zero, List.set_cons_succ])
        refine rv_nil (fun w hG hH => ?_)
        obtain ⟨n, rfl⟩ := hG
        clear hH
        go_wp2_with fail
        refine (HS.out _).mono ?_
        rintro e _ ⟨rfl, rfl⟩
        go_wp2_with fail
        go_ret
        exact ⟨ret_eq (by rw [Hr.out]; rfl), K.drewN _⟩
      · go_enter Tryd.func62, Tryd.ntmps62
        go_wp2_with fail
        rw [← HB0.out]
        refine wp_region_rv 8 GQ (kindV []) (by kernel_rfl) (by kernel_rfl) GQ.trans GQ.refl (GQ.start _) (kindV_mono _) ?_
        simp only [List.take_succ_cons, List.take_zero, List.drop_succ_cons, List.drop_zero]
        iterate 8 (refine rv_det (by kernel_rfl) rfl (by intro w hG hH; obtain ⟨n, rfl⟩ := hG; go_simp; first | done | with_reducible rfl) ?_; simp only [Act.put, List.setIfInBounds_toArray, List.set_cons_zero, List.set_cons_succ])
        refine rv_nil (fun w hG hH => ?_)
        obtain ⟨n, rfl⟩ := hG
        clear hH
        go_wp2_with fail
        refine (HS.out _).mono ?_
        rintro e _ ⟨rfl, rfl⟩
        go_wp2_with fail
        go_ret
        exact ⟨ret_eq (by rw [Hr.out]; rfl), K.drewN _⟩
  · cases bN
    · go_enter Tryd.func62, Tryd.ntmps62
      go_wp2_with fail
      rw [← HB0.out]
      refine wp_region_rv 8 GQ (kindV []) (by kernel_rfl) (by kernel_rfl) GQ.trans GQ.refl (GQ.start _) (kindV_mono _) ?_
      simp only [List.take_succ_cons, List.take_zero, List.drop_succ_cons, List.drop_zero]
      iterate 8 (refine rv_det (by kernel_rfl) rfl (by intro w hG hH; obtain ⟨n, rfl⟩ := hG; go_simp; first | done | with_reducible rfl) ?_; simp only [Act.put, List.setIfInBounds_toArray, List.set_cons_zero, List.set_cons_succ])
      refine rv_nil (fun w hG hH => ?_)
      obtain ⟨n, rfl⟩ := hG
      clear hH
      go_wp2_with fail
      refine (HS.out _).mono ?_
      rintro e _ ⟨rfl, rfl⟩
      go_wp2_with fail
      go_ret
      exact ⟨ret_eq (by rw [Hr.out]; rfl), K.drewN _⟩
    · cases ba
      · go_enter Tryd.func62, Tryd.ntmps62
        go_wp2_with fail
        rw [← HB0.out]
        refine wp_region_rv 8 GQ (kindV []) (by kernel_rfl) (by kernel_rfl) GQ.trans GQ.refl (GQ.start _) (kindV_mono _) ?_
        simp only [List.take_succ_cons, List.take_zero, List.drop_succ_cons, List.drop_zero]
        iterate 8 (refine rv_det (by kernel_rfl) rfl (by intro w hG hH; obtain ⟨n, rfl⟩ := hG; go_simp; first | done | with_reducible rfl) ?_; simp only [Act.put, List.setIfInBounds_toArray, List.set_cons_zero, List.set_cons_succ])
        refine rv_nil (fun w hG hH => ?_)
        obtain ⟨n, rfl⟩ := hG
        clear hH
        go_wp2_with fail
        refine (HS.out _).mono ?_
        rintro e _ ⟨rfl, rfl⟩
        go_wp2_with fail
        go_ret
        exact ⟨ret_eq (by rw [Hr.out]; rfl), K.drewN _⟩
      · go_enter Tryd.func62, Tryd.ntmps62
        go_wp2_with fail
        rw [← HB0.out]
        refine wp_region_rv 8 GQ (kindV []) (by kernel_rfl) (by kernel_rfl) GQ.trans GQ.refl (GQ.start _) (kindV_mono _) ?_
        simp only [List.take_succ_cons, List.take_zero, List.drop_succ_cons, List.drop_zero]
        iterate 8 (refine rv_det (by kernel_rfl) rfl (by intro w hG hH; obtain ⟨n, rfl⟩ := hG; go_simp; first | done | with_reducible rfl) ?_; simp only [Act.put, List.setIfInBounds_toArray, List.set_cons_zero, List.set_cons_succ])
        refine rv_nil (fun w hG hH => ?_)
        obtain ⟨n, rfl⟩ := hG
        clear hH
        go_wp2_with fail
        refine (HS.out _).mono ?_
        rintro e _ ⟨rfl, rfl⟩
        go_wp2_with fail
        go_ret
        exact ⟨ret_eq (by rw [Hr.out]; rfl), K.drewN _⟩

set_option maxRecDepth 100000 in
set_option maxHeartbeats 4000000 in
theorem fields_5 (at_ n : Int) (s : ByteArray) (la : Option Addr) (ll lc : Nat) (w : World) (hs : s.size ≤ 9223372036854775807) (_hn2 : n ≤ 9223372036854775807) :
    Calls Tryd.prog 62 #[.agg #[.int .u8 5, .int .i64 at_, .int .i64 n, .string s, .slice la ll lc]] w fun e w' => e = .returned (.bool (fieldsB 5 at_ n s)) ∧ KB F0 w w' := by
  obtain ⟨w0, rfl⟩ : ∃ w0, w0 = w := ⟨_, rfl⟩
  have Hr : Hid (fieldsB 5 at_ n s = (nameB s && (n == 0) && decide (0 ≤ at_) && true && true)) := Lib.hid (by
    show (nameB s && (decide ((0 : Int) ≤ n) && decide (n ≤ (0 : Int))) && decide (0 ≤ at_) && true && true) = _
    rw [eq00])
  obtain ⟨B0, hB0⟩ : ∃ B0, B0 = (w0.alloc (.cells #[.int .u8 5, .int .i64 at_, .int .i64 n, .string s, .slice la ll lc] 25)) := ⟨_, rfl⟩
  have K : KB F0 w0 B0 := by subst hB0; exact (KB.refl _ _).alloc _
  have c0 : B0.cell? ⟨w0.heap.size, 0, none⟩ = some (.int .u8 5) := by subst hB0; exact new_cell _ _ _ 0
  have c1 : B0.cell? ⟨w0.heap.size, 1, none⟩ = some (.int .i64 at_) := by subst hB0; exact new_cell _ _ _ 1
  have c2 : B0.cell? ⟨w0.heap.size, 2, none⟩ = some (.int .i64 n) := by subst hB0; exact new_cell _ _ _ 2
  have c3 : B0.cell? ⟨w0.heap.size, 3, none⟩ = some (.string s) := by subst hB0; exact new_cell _ _ _ 3
  have HB0 := Lib.hid hB0
  clear hB0
  have HS := Lib.hid (fun W => cname_any s W hs)
  generalize nameB s = bN at HS Hr
  obtain ⟨ba, hba⟩ : ∃ b, decide ((0 : Int) ≤ at_) = b := ⟨_, rfl⟩
  rw [hba] at Hr
  obtain ⟨q0, hq0⟩ : ∃ b, (n == 0) = b := ⟨_, rfl⟩
  rw [hq0] at Hr
  clear hs _hn2
  cases q0
  · cases bN
    · go_enter Tryd.func62, Tryd.ntmps62
      go_wp2_with fail
      rw [← HB0.out]
      refine wp_region_rv 8 GQ (kindV []) (by kernel_rfl) (by kernel_rfl) GQ.trans GQ.refl (GQ.start _) (kindV_mono _) ?_
      simp only [List.take_succ_cons, List.take_zero, List.drop_succ_cons, List.drop_zero]
      iterate 8 (refine rv_det (by kernel_rfl) rfl (by intro w hG hH; obtain ⟨n, rfl⟩ := hG; go_simp; first | done | with_reducible rfl) ?_; simp only [Act.put, List.setIfInBounds_toArray, List.set_cons_zero, List.set_cons_succ])
      refine rv_nil (fun w hG hH => ?_)
      obtain ⟨n, rfl⟩ := hG
      clear hH
      go_wp2_with fail
      refine (HS.out _).mono ?_
      rintro e _ ⟨rfl, rfl⟩
      go_wp2_with fail
      go_ret
      exact ⟨ret_eq (by rw [Hr.out]; rfl), K.drewN _⟩
    · cases ba
      · go_enter Tryd.func62, Tryd.ntmps62
        go_wp2_with fail
        rw [← HB0.out]
        refine wp_region_rv 8 GQ (kindV []) (by kernel_rfl) (by kernel_rfl) GQ.trans GQ.refl (GQ.start _) (kindV_mono _) ?_
        simp only [List.take_succ_cons, List.take_zero, List.drop_succ_cons, List.drop_zero]
        iterate 8 (refine rv_det (by kernel_rfl) rfl (by intro w hG hH; obtain ⟨n, rfl⟩ := hG; go_simp; first | done | with_reducible rfl) ?_; simp only [Act.put, List.setIfInBounds_toArray, List.set_cons_zero, List.set_cons_succ])
        refine rv_nil (fun w hG hH => ?_)
        obtain ⟨n, rfl⟩ := hG
        clear hH
        go_wp2_with fail
        refine (HS.out _).mono ?_
        rintro e _ ⟨rfl, rfl⟩
        go_wp2_with fail
        go_ret
        exact ⟨ret_eq (by rw [Hr.out]; rfl), K.drewN _⟩
      · go_enter Tryd.func62, Tryd.ntmps62
        go_wp2_with fail
        rw [← HB0.out]
        refine wp_region_rv 8 GQ (kindV []) (by kernel_rfl) (by kernel_rfl) GQ.trans GQ.refl (GQ.start _) (kindV_mono _) ?_
        simp only [List.take_succ_cons, List.take_zero, List.drop_succ_cons, List.drop_zero]
        iterate 8 (refine rv_det (by kernel_rfl) rfl (by intro w hG hH; obtain ⟨n, rfl⟩ := hG; go_simp; first | done | with_reducible rfl) ?_; simp only [Act.put, List.setIfInBounds_toArray, List.set_cons_zero, List.set_cons_succ])
        refine rv_nil (fun w hG hH => ?_)
        obtain ⟨n, rfl⟩ := hG
        clear hH
        go_wp2_with fail
        refine (HS.out _).mono ?_
        rintro e _ ⟨rfl, rfl⟩
        go_wp2_with fail
        go_ret
        exact ⟨ret_eq (by rw [Hr.out]; rfl), K.drewN _⟩
  · cases bN
    · go_enter Tryd.func62, Tryd.ntmps62
      go_wp2_with fail
      rw [← HB0.out]
      refine wp_region_rv 8 GQ (kindV []) (by kernel_rfl) (by kernel_rfl) GQ.trans GQ.refl (GQ.start _) (kindV_mono _) ?_
      simp only [List.take_succ_cons, List.take_zero, List.drop_succ_cons, List.drop_zero]
      iterate 8 (refine rv_det (by kernel_rfl) rfl (by intro w hG hH; obtain ⟨n, rfl⟩ := hG; go_simp; first | done | with_reducible rfl) ?_; simp only [Act.put, List.setIfInBounds_toArray, List.set_cons_zero, List.set_cons_succ])
      refine rv_nil (fun w hG hH => ?_)
      obtain ⟨n, rfl⟩ := hG
      clear hH
      go_wp2_with fail
      refine (HS.out _).mono ?_
      rintro e _ ⟨rfl, rfl⟩
      go_wp2_with fail
      go_ret
      exact ⟨ret_eq (by rw [Hr.out]; rfl), K.drewN _⟩
    · cases ba
      · go_enter Tryd.func62, Tryd.ntmps62
        go_wp2_with fail
        rw [← HB0.out]
        refine wp_region_rv 8 GQ (kindV []) (by kernel_rfl) (by kernel_rfl) GQ.trans GQ.refl (GQ.start _) (kindV_mono _) ?_
        simp only [List.take_succ_cons, List.take_zero, List.drop_succ_cons, List.drop_zero]
        iterate 8 (refine rv_det (by kernel_rfl) rfl (by intro w hG hH; obtain ⟨n, rfl⟩ := hG; go_simp; first | done | with_reducible rfl) ?_; simp only [Act.put, List.setIfInBounds_toArray, List.set_cons_zero, List.set_cons_succ])
        refine rv_nil (fun w hG hH => ?_)
        obtain ⟨n, rfl⟩ := hG
        clear hH
        go_wp2_with fail
        refine (HS.out _).mono ?_
        rintro e _ ⟨rfl, rfl⟩
        go_wp2_with fail
        go_ret
        exact ⟨ret_eq (by rw [Hr.out]; rfl), K.drewN _⟩
      · go_enter Tryd.func62, Tryd.ntmps62
        go_wp2_with fail
        rw [← HB0.out]
        refine wp_region_rv 8 GQ (kindV []) (by kernel_rfl) (by kernel_rfl) GQ.trans GQ.refl (GQ.start _) (kindV_mono _) ?_
        simp only [List.take_succ_cons, List.take_zero, List.drop_succ_cons, List.drop_zero]
        iterate 8 (refine rv_det (by kernel_rfl) rfl (by intro w hG hH; obtain ⟨n, rfl⟩ := hG; go_simp; first | done | with_reducible rfl) ?_; simp only [Act.put, List.setIfInBounds_toArray, List.set_cons_zero, List.set_cons_succ])
        refine rv_nil (fun w hG hH => ?_)
        obtain ⟨n, rfl⟩ := hG
        clear hH
        go_wp2_with fail
        refine (HS.out _).mono ?_
        rintro e _ ⟨rfl, rfl⟩
        go_wp2_with fail
        go_ret
        exact ⟨ret_eq (by rw [Hr.out]; rfl), K.drewN _⟩

set_option maxRecDepth 100000 in
set_option maxHeartbeats 4000000 in
theorem fields_6 (at_ n : Int) (s : ByteArray) (la : Option Addr) (ll lc : Nat) (w : World) (hs : s.size ≤ 9223372036854775807) (_hn2 : n ≤ 9223372036854775807) :
    Calls Tryd.prog 62 #[.agg #[.int .u8 6, .int .i64 at_, .int .i64 n, .string s, .slice la ll lc]] w fun e w' => e = .returned (.bool (fieldsB 6 at_ n s)) ∧ KB F0 w w' := by
  obtain ⟨w0, rfl⟩ : ∃ w0, w0 = w := ⟨_, rfl⟩
  have Hr : Hid (fieldsB 6 at_ n s = (nameB s && (n == 0) && decide (0 ≤ at_) && true && true)) := Lib.hid (by
    show (nameB s && (decide ((0 : Int) ≤ n) && decide (n ≤ (0 : Int))) && decide (0 ≤ at_) && true && true) = _
    rw [eq00])
  obtain ⟨B0, hB0⟩ : ∃ B0, B0 = (w0.alloc (.cells #[.int .u8 6, .int .i64 at_, .int .i64 n, .string s, .slice la ll lc] 25)) := ⟨_, rfl⟩
  have K : KB F0 w0 B0 := by subst hB0; exact (KB.refl _ _).alloc _
  have c0 : B0.cell? ⟨w0.heap.size, 0, none⟩ = some (.int .u8 6) := by subst hB0; exact new_cell _ _ _ 0
  have c1 : B0.cell? ⟨w0.heap.size, 1, none⟩ = some (.int .i64 at_) := by subst hB0; exact new_cell _ _ _ 1
  have c2 : B0.cell? ⟨w0.heap.size, 2, none⟩ = some (.int .i64 n) := by subst hB0; exact new_cell _ _ _ 2
  have c3 : B0.cell? ⟨w0.heap.size, 3, none⟩ = some (.string s) := by subst hB0; exact new_cell _ _ _ 3
  have HB0 := Lib.hid hB0
  clear hB0
  have HS := Lib.hid (fun W => cname_any s W hs)
  generalize nameB s = bN at HS Hr
  obtain ⟨ba, hba⟩ : ∃ b, decide ((0 : Int) ≤ at_) = b := ⟨_, rfl⟩
  rw [hba] at Hr
  obtain ⟨q0, hq0⟩ : ∃ b, (n == 0) = b := ⟨_, rfl⟩
  rw [hq0] at Hr
  clear hs _hn2
  cases q0
  · cases bN
    · go_enter Tryd.func62, Tryd.ntmps62
      go_wp2_with fail
      rw [← HB0.out]
      refine wp_region_rv 8 GQ (kindV []) (by kernel_rfl) (by kernel_rfl) GQ.trans GQ.refl (GQ.start _) (kindV_mono _) ?_
      simp only [List.take_succ_cons, List.take_zero, List.drop_succ_cons, List.drop_zero]
      iterate 8 (refine rv_det (by kernel_rfl) rfl (by intro w hG hH; obtain ⟨n, rfl⟩ := hG; go_simp; first | done | with_reducible rfl) ?_; simp only [Act.put, List.setIfInBounds_toArray, List.set_cons_zero, List.set_cons_succ])
      refine rv_nil (fun w hG hH => ?_)
      obtain ⟨n, rfl⟩ := hG
      clear hH
      go_wp2_with fail
      refine (HS.out _).mono ?_
      rintro e _ ⟨rfl, rfl⟩
      go_wp2_with fail
      go_ret
      exact ⟨ret_eq (by rw [Hr.out]; rfl), K.drewN _⟩
    · cases ba
      · go_enter Tryd.func62, Tryd.ntmps62
        go_wp2_with fail
        rw [← HB0.out]
        refine wp_region_rv 8 GQ (kindV []) (by kernel_rfl) (by kernel_rfl) GQ.trans GQ.refl (GQ.start _) (kindV_mono _) ?_
        simp only [List.take_succ_cons, List.take_zero, List.drop_succ_cons, List.drop_zero]
        iterate 8 (refine rv_det (by kernel_rfl) rfl (by intro w hG hH; obtain ⟨n, rfl⟩ := hG; go_simp; first | done | with_reducible rfl) ?_; simp only [Act.put, List.setIfInBounds_toArray, List.set_cons_zero, List.set_cons_succ])
        refine rv_nil (fun w hG hH => ?_)
        obtain ⟨n, rfl⟩ := hG
        clear hH
        go_wp2_with fail
        refine (HS.out _).mono ?_
        rintro e _ ⟨rfl, rfl⟩
        go_wp2_with fail
        go_ret
        exact ⟨ret_eq (by rw [Hr.out]; rfl), K.drewN _⟩
      · go_enter Tryd.func62, Tryd.ntmps62
        go_wp2_with fail
        rw [← HB0.out]
        refine wp_region_rv 8 GQ (kindV []) (by kernel_rfl) (by kernel_rfl) GQ.trans GQ.refl (GQ.start _) (kindV_mono _) ?_
        simp only [List.take_succ_cons, List.take_zero, List.drop_succ_cons, List.drop_zero]
        iterate 8 (refine rv_det (by kernel_rfl) rfl (by intro w hG hH; obtain ⟨n, rfl⟩ := hG; go_simp; first | done | with_reducible rfl) ?_; simp only [Act.put, List.setIfInBounds_toArray, List.set_cons_zero, List.set_cons_succ])
        refine rv_nil (fun w hG hH => ?_)
        obtain ⟨n, rfl⟩ := hG
        clear hH
        go_wp2_with fail
        refine (HS.out _).mono ?_
        rintro e _ ⟨rfl, rfl⟩
        go_wp2_with fail
        go_ret
        exact ⟨ret_eq (by rw [Hr.out]; rfl), K.drewN _⟩
  · cases bN
    · go_enter Tryd.func62, Tryd.ntmps62
      go_wp2_with fail
      rw [← HB0.out]
      refine wp_region_rv 8 GQ (kindV []) (by kernel_rfl) (by kernel_rfl) GQ.trans GQ.refl (GQ.start _) (kindV_mono _) ?_
      simp only [List.take_succ_cons, List.take_zero, List.drop_succ_cons, List.drop_zero]
      iterate 8 (refine rv_det (by kernel_rfl) rfl (by intro w hG hH; obtain ⟨n, rfl⟩ := hG; go_simp; first | done | with_reducible rfl) ?_; simp only [Act.put, List.setIfInBounds_toArray, List.set_cons_zero, List.set_cons_succ])
      refine rv_nil (fun w hG hH => ?_)
      obtain ⟨n, rfl⟩ := hG
      clear hH
      go_wp2_with fail
      refine (HS.out _).mono ?_
      rintro e _ ⟨rfl, rfl⟩
      go_wp2_with fail
      go_ret
      exact ⟨ret_eq (by rw [Hr.out]; rfl), K.drewN _⟩
    · cases ba
      · go_enter Tryd.func62, Tryd.ntmps62
        go_wp2_with fail
        rw [← HB0.out]
        refine wp_region_rv 8 GQ (kindV []) (by kernel_rfl) (by kernel_rfl) GQ.trans GQ.refl (GQ.start _) (kindV_mono _) ?_
        simp only [List.take_succ_cons, List.take_zero, List.drop_succ_cons, List.drop_zero]
        iterate 8 (refine rv_det (by kernel_rfl) rfl (by intro w hG hH; obtain ⟨n, rfl⟩ := hG; go_simp; first | done | with_reducible rfl) ?_; simp only [Act.put, List.setIfInBounds_toArray, List.set_cons_zero, List.set_cons_succ])
        refine rv_nil (fun w hG hH => ?_)
        obtain ⟨n, rfl⟩ := hG
        clear hH
        go_wp2_with fail
        refine (HS.out _).mono ?_
        rintro e _ ⟨rfl, rfl⟩
        go_wp2_with fail
        go_ret
        exact ⟨ret_eq (by rw [Hr.out]; rfl), K.drewN _⟩
      · go_enter Tryd.func62, Tryd.ntmps62
        go_wp2_with fail
        rw [← HB0.out]
        refine wp_region_rv 8 GQ (kindV []) (by kernel_rfl) (by kernel_rfl) GQ.trans GQ.refl (GQ.start _) (kindV_mono _) ?_
        simp only [List.take_succ_cons, List.take_zero, List.drop_succ_cons, List.drop_zero]
        iterate 8 (refine rv_det (by kernel_rfl) rfl (by intro w hG hH; obtain ⟨n, rfl⟩ := hG; go_simp; first | done | with_reducible rfl) ?_; simp only [Act.put, List.setIfInBounds_toArray, List.set_cons_zero, List.set_cons_succ])
        refine rv_nil (fun w hG hH => ?_)
        obtain ⟨n, rfl⟩ := hG
        clear hH
        go_wp2_with fail
        refine (HS.out _).mono ?_
        rintro e _ ⟨rfl, rfl⟩
        go_wp2_with fail
        go_ret
        exact ⟨ret_eq (by rw [Hr.out]; rfl), K.drewN _⟩

set_option maxRecDepth 100000 in
set_option maxHeartbeats 4000000 in
theorem fields_7 (at_ n : Int) (s : ByteArray) (la : Option Addr) (ll lc : Nat) (w : World) (hs : s.size ≤ 9223372036854775807) (_hn2 : n ≤ 9223372036854775807) :
    Calls Tryd.prog 62 #[.agg #[.int .u8 7, .int .i64 at_, .int .i64 n, .string s, .slice la ll lc]] w fun e w' => e = .returned (.bool (fieldsB 7 at_ n s)) ∧ KB F0 w w' := by
  obtain ⟨w0, rfl⟩ : ∃ w0, w0 = w := ⟨_, rfl⟩
  have Hr : Hid (fieldsB 7 at_ n s = (nameB s && (n == 0) && decide (0 ≤ at_) && true && true)) := Lib.hid (by
    show (nameB s && (decide ((0 : Int) ≤ n) && decide (n ≤ (0 : Int))) && decide (0 ≤ at_) && true && true) = _
    rw [eq00])
  obtain ⟨B0, hB0⟩ : ∃ B0, B0 = (w0.alloc (.cells #[.int .u8 7, .int .i64 at_, .int .i64 n, .string s, .slice la ll lc] 25)) := ⟨_, rfl⟩
  have K : KB F0 w0 B0 := by subst hB0; exact (KB.refl _ _).alloc _
  have c0 : B0.cell? ⟨w0.heap.size, 0, none⟩ = some (.int .u8 7) := by subst hB0; exact new_cell _ _ _ 0
  have c1 : B0.cell? ⟨w0.heap.size, 1, none⟩ = some (.int .i64 at_) := by subst hB0; exact new_cell _ _ _ 1
  have c2 : B0.cell? ⟨w0.heap.size, 2, none⟩ = some (.int .i64 n) := by subst hB0; exact new_cell _ _ _ 2
  have c3 : B0.cell? ⟨w0.heap.size, 3, none⟩ = some (.string s) := by subst hB0; exact new_cell _ _ _ 3
  have HB0 := Lib.hid hB0
  clear hB0
  have HS := Lib.hid (fun W => cname_any s W hs)
  generalize nameB s = bN at HS Hr
  obtain ⟨ba, hba⟩ : ∃ b, decide ((0 : Int) ≤ at_) = b := ⟨_, rfl⟩
  rw [hba] at Hr
  obtain ⟨q0, hq0⟩ : ∃ b, (n == 0) = b := ⟨_, rfl⟩
  rw [hq0] at Hr
  clear hs _hn2
  cases q0
  · cases bN
    · go_enter Tryd.func62, Tryd.ntmps62
      go_wp2_with fail
      rw [← HB0.out]
      refine wp_region_rv 8 GQ (kindV []) (by kernel_rfl) (by kernel_rfl) GQ.trans GQ.refl (GQ.start _) (kindV_mono _) ?_
      simp only [List.take_succ_cons, List.take_zero, List.drop_succ_cons, List.drop_zero]
      iterate 8 (refine rv_det (by kernel_rfl) rfl (by intro w hG hH; obtain ⟨n, rfl⟩ := hG; go_simp; first | done | with_reducible rfl) ?_; simp only [Act.put, List.setIfInBounds_toArray, List.set_cons_zero, List.set_cons_succ])
      refine rv_nil (fun w hG hH => ?_)
      obtain ⟨n, rfl⟩ := hG
      clear hH
      go_wp2_with fail
      refine (HS.out _).mono ?_
      rintro e _ ⟨rfl, rfl⟩
      go_wp2_with fail
      go_ret
      exact ⟨ret_eq (by rw [Hr.out]; rfl), K.drewN _⟩
    · cases ba
      · go_enter Tryd.func62, Tryd.ntmps62
        go_wp2_with fail
        rw [← HB0.out]
        refine wp_region_rv 8 GQ (kindV []) (by kernel_rfl) (by kernel_rfl) GQ.trans GQ.refl (GQ.start _) (kindV_mono _) ?_
        simp only [List.take_succ_cons, List.take_zero, List.drop_succ_cons, List.drop_zero]
        iterate 8 (refine rv_det (by kernel_rfl) rfl (by intro w hG hH; obtain ⟨n, rfl⟩ := hG; go_simp; first | done | with_reducible rfl) ?_; simp only [Act.put, List.setIfInBounds_toArray, List.set_cons_zero, List.set_cons_succ])
        refine rv_nil (fun w hG hH => ?_)
        obtain ⟨n, rfl⟩ := hG
        clear hH
        go_wp2_with fail
        refine (HS.out _).mono ?_
        rintro e _ ⟨rfl, rfl⟩
        go_wp2_with fail
        go_ret
        exact ⟨ret_eq (by rw [Hr.out]; rfl), K.drewN _⟩
      · go_enter Tryd.func62, Tryd.ntmps62
        go_wp2_with fail
        rw [← HB0.out]
        refine wp_region_rv 8 GQ (kindV []) (by kernel_rfl) (by kernel_rfl) GQ.trans GQ.refl (GQ.start _) (kindV_mono _) ?_
        simp only [List.take_succ_cons, List.take_zero, List.drop_succ_cons, List.drop_zero]
        iterate 8 (refine rv_det (by kernel_rfl) rfl (by intro w hG hH; obtain ⟨n, rfl⟩ := hG; go_simp; first | done | with_reducible rfl) ?_; simp only [Act.put, List.setIfInBounds_toArray, List.set_cons_zero, List.set_cons_succ])
        refine rv_nil (fun w hG hH => ?_)
        obtain ⟨n, rfl⟩ := hG
        clear hH
        go_wp2_with fail
        refine (HS.out _).mono ?_
        rintro e _ ⟨rfl, rfl⟩
        go_wp2_with fail
        go_ret
        exact ⟨ret_eq (by rw [Hr.out]; rfl), K.drewN _⟩
  · cases bN
    · go_enter Tryd.func62, Tryd.ntmps62
      go_wp2_with fail
      rw [← HB0.out]
      refine wp_region_rv 8 GQ (kindV []) (by kernel_rfl) (by kernel_rfl) GQ.trans GQ.refl (GQ.start _) (kindV_mono _) ?_
      simp only [List.take_succ_cons, List.take_zero, List.drop_succ_cons, List.drop_zero]
      iterate 8 (refine rv_det (by kernel_rfl) rfl (by intro w hG hH; obtain ⟨n, rfl⟩ := hG; go_simp; first | done | with_reducible rfl) ?_; simp only [Act.put, List.setIfInBounds_toArray, List.set_cons_zero, List.set_cons_succ])
      refine rv_nil (fun w hG hH => ?_)
      obtain ⟨n, rfl⟩ := hG
      clear hH
      go_wp2_with fail
      refine (HS.out _).mono ?_
      rintro e _ ⟨rfl, rfl⟩
      go_wp2_with fail
      go_ret
      exact ⟨ret_eq (by rw [Hr.out]; rfl), K.drewN _⟩
    · cases ba
      · go_enter Tryd.func62, Tryd.ntmps62
        go_wp2_with fail
        rw [← HB0.out]
        refine wp_region_rv 8 GQ (kindV []) (by kernel_rfl) (by kernel_rfl) GQ.trans GQ.refl (GQ.start _) (kindV_mono _) ?_
        simp only [List.take_succ_cons, List.take_zero, List.drop_succ_cons, List.drop_zero]
        iterate 8 (refine rv_det (by kernel_rfl) rfl (by intro w hG hH; obtain ⟨n, rfl⟩ := hG; go_simp; first | done | with_reducible rfl) ?_; simp only [Act.put, List.setIfInBounds_toArray, List.set_cons_zero, List.set_cons_succ])
        refine rv_nil (fun w hG hH => ?_)
        obtain ⟨n, rfl⟩ := hG
        clear hH
        go_wp2_with fail
        refine (HS.out _).mono ?_
        rintro e _ ⟨rfl, rfl⟩
        go_wp2_with fail
        go_ret
        exact ⟨ret_eq (by rw [Hr.out]; rfl), K.drewN _⟩
      · go_enter Tryd.func62, Tryd.ntmps62
        go_wp2_with fail
        rw [← HB0.out]
        refine wp_region_rv 8 GQ (kindV []) (by kernel_rfl) (by kernel_rfl) GQ.trans GQ.refl (GQ.start _) (kindV_mono _) ?_
        simp only [List.take_succ_cons, List.take_zero, List.drop_succ_cons, List.drop_zero]
        iterate 8 (refine rv_det (by kernel_rfl) rfl (by intro w hG hH; obtain ⟨n, rfl⟩ := hG; go_simp; first | done | with_reducible rfl) ?_; simp only [Act.put, List.setIfInBounds_toArray, List.set_cons_zero, List.set_cons_succ])
        refine rv_nil (fun w hG hH => ?_)
        obtain ⟨n, rfl⟩ := hG
        clear hH
        go_wp2_with fail
        refine (HS.out _).mono ?_
        rintro e _ ⟨rfl, rfl⟩
        go_wp2_with fail
        go_ret
        exact ⟨ret_eq (by rw [Hr.out]; rfl), K.drewN _⟩

set_option maxRecDepth 100000 in
set_option maxHeartbeats 4000000 in
theorem fields_8 (at_ n : Int) (s : ByteArray) (la : Option Addr) (ll lc : Nat) (w : World) (_hs : s.size ≤ 9223372036854775807) (_hn2 : n ≤ 9223372036854775807) :
    Calls Tryd.prog 62 #[.agg #[.int .u8 8, .int .i64 at_, .int .i64 n, .string s, .slice la ll lc]] w fun e w' => e = .returned (.bool (fieldsB 8 at_ n s)) ∧ KB F0 w w' := by
  obtain ⟨w0, rfl⟩ : ∃ w0, w0 = w := ⟨_, rfl⟩
  have Hr : Hid (fieldsB 8 at_ n s = (emptyB s && (n == 0) && decide (0 ≤ at_) && true && true)) := Lib.hid (by
    show (emptyB s && (decide ((0 : Int) ≤ n) && decide (n ≤ (0 : Int))) && decide (0 ≤ at_) && true && true) = _
    rw [eq00])
  obtain ⟨B0, hB0⟩ : ∃ B0, B0 = (w0.alloc (.cells #[.int .u8 8, .int .i64 at_, .int .i64 n, .string s, .slice la ll lc] 25)) := ⟨_, rfl⟩
  have K : KB F0 w0 B0 := by subst hB0; exact (KB.refl _ _).alloc _
  have c0 : B0.cell? ⟨w0.heap.size, 0, none⟩ = some (.int .u8 8) := by subst hB0; exact new_cell _ _ _ 0
  have c1 : B0.cell? ⟨w0.heap.size, 1, none⟩ = some (.int .i64 at_) := by subst hB0; exact new_cell _ _ _ 1
  have c2 : B0.cell? ⟨w0.heap.size, 2, none⟩ = some (.int .i64 n) := by subst hB0; exact new_cell _ _ _ 2
  have c3 : B0.cell? ⟨w0.heap.size, 3, none⟩ = some (.string s) := by subst hB0; exact new_cell _ _ _ 3
  have HB0 := Lib.hid hB0
  clear hB0
  have tE : s.toList.isEmpty = emptyB s := rfl
  generalize emptyB s = bE at tE Hr
  obtain ⟨ba, hba⟩ : ∃ b, decide ((0 : Int) ≤ at_) = b := ⟨_, rfl⟩
  rw [hba] at Hr
  obtain ⟨q0, hq0⟩ : ∃ b, (n == 0) = b := ⟨_, rfl⟩
  rw [hq0] at Hr
  clear _hs _hn2
  cases q0
  · cases bE
    · go_enter Tryd.func62, Tryd.ntmps62
      go_wp2_with fail
      rw [← HB0.out]
      refine wp_region_rv 8 GQ (kindV []) (by kernel_rfl) (by kernel_rfl) GQ.trans GQ.refl (GQ.start _) (kindV_mono _) ?_
      simp only [List.take_succ_cons, List.take_zero, List.drop_succ_cons, List.drop_zero]
      iterate 8 (refine rv_det (by kernel_rfl) rfl (by intro w hG hH; obtain ⟨n, rfl⟩ := hG; go_simp; first | done | with_reducible rfl) ?_; simp only [Act.put, List.setIfInBounds_toArray, List.set_cons_zero, List.set_cons_succ])
      refine rv_nil (fun w hG hH => ?_)
      obtain ⟨n, rfl⟩ := hG
      clear hH
      go_wp2_with fail
      go_ret
      exact ⟨ret_eq (by rw [Hr.out]; rfl), K.drewN _⟩
    · cases ba
      · go_enter Tryd.func62, Tryd.ntmps62
        go_wp2_with fail
        rw [← HB0.out]
        refine wp_region_rv 8 GQ (kindV []) (by kernel_rfl) (by kernel_rfl) GQ.trans GQ.refl (GQ.start _) (kindV_mono _) ?_
        simp only [List.take_succ_cons, List.take_zero, List.drop_succ_cons, List.drop_zero]
        iterate 8 (refine rv_det (by kernel_rfl) rfl (by intro w hG hH; obtain ⟨n, rfl⟩ := hG; go_simp; first | done | with_reducible rfl) ?_; simp only [Act.put, List.setIfInBounds_toArray, List.set_cons_zero, List.set_cons_succ])
        refine rv_nil (fun w hG hH => ?_)
        obtain ⟨n, rfl⟩ := hG
        clear hH
        go_wp2_with fail
        go_ret
        exact ⟨ret_eq (by rw [Hr.out]; rfl), K.drewN _⟩
      · go_enter Tryd.func62, Tryd.ntmps62
        go_wp2_with fail
        rw [← HB0.out]
        refine wp_region_rv 8 GQ (kindV []) (by kernel_rfl) (by kernel_rfl) GQ.trans GQ.refl (GQ.start _) (kindV_mono _) ?_
        simp only [List.take_succ_cons, List.take_zero, List.drop_succ_cons, List.drop_zero]
        iterate 8 (refine rv_det (by kernel_rfl) rfl (by intro w hG hH; obtain ⟨n, rfl⟩ := hG; go_simp; first | done | with_reducible rfl) ?_; simp only [Act.put, List.setIfInBounds_toArray, List.set_cons_zero, List.set_cons_succ])
        refine rv_nil (fun w hG hH => ?_)
        obtain ⟨n, rfl⟩ := hG
        clear hH
        go_wp2_with fail
        go_ret
        exact ⟨ret_eq (by rw [Hr.out]; rfl), K.drewN _⟩
  · cases bE
    · go_enter Tryd.func62, Tryd.ntmps62
      go_wp2_with fail
      rw [← HB0.out]
      refine wp_region_rv 8 GQ (kindV []) (by kernel_rfl) (by kernel_rfl) GQ.trans GQ.refl (GQ.start _) (kindV_mono _) ?_
      simp only [List.take_succ_cons, List.take_zero, List.drop_succ_cons, List.drop_zero]
      iterate 8 (refine rv_det (by kernel_rfl) rfl (by intro w hG hH; obtain ⟨n, rfl⟩ := hG; go_simp; first | done | with_reducible rfl) ?_; simp only [Act.put, List.setIfInBounds_toArray, List.set_cons_zero, List.set_cons_succ])
      refine rv_nil (fun w hG hH => ?_)
      obtain ⟨n, rfl⟩ := hG
      clear hH
      go_wp2_with fail
      go_ret
      exact ⟨ret_eq (by rw [Hr.out]; rfl), K.drewN _⟩
    · cases ba
      · go_enter Tryd.func62, Tryd.ntmps62
        go_wp2_with fail
        rw [← HB0.out]
        refine wp_region_rv 8 GQ (kindV []) (by kernel_rfl) (by kernel_rfl) GQ.trans GQ.refl (GQ.start _) (kindV_mono _) ?_
        simp only [List.take_succ_cons, List.take_zero, List.drop_succ_cons, List.drop_zero]
        iterate 8 (refine rv_det (by kernel_rfl) rfl (by intro w hG hH; obtain ⟨n, rfl⟩ := hG; go_simp; first | done | with_reducible rfl) ?_; simp only [Act.put, List.setIfInBounds_toArray, List.set_cons_zero, List.set_cons_succ])
        refine rv_nil (fun w hG hH => ?_)
        obtain ⟨n, rfl⟩ := hG
        clear hH
        go_wp2_with fail
        go_ret
        exact ⟨ret_eq (by rw [Hr.out]; rfl), K.drewN _⟩
      · go_enter Tryd.func62, Tryd.ntmps62
        go_wp2_with fail
        rw [← HB0.out]
        refine wp_region_rv 8 GQ (kindV []) (by kernel_rfl) (by kernel_rfl) GQ.trans GQ.refl (GQ.start _) (kindV_mono _) ?_
        simp only [List.take_succ_cons, List.take_zero, List.drop_succ_cons, List.drop_zero]
        iterate 8 (refine rv_det (by kernel_rfl) rfl (by intro w hG hH; obtain ⟨n, rfl⟩ := hG; go_simp; first | done | with_reducible rfl) ?_; simp only [Act.put, List.setIfInBounds_toArray, List.set_cons_zero, List.set_cons_succ])
        refine rv_nil (fun w hG hH => ?_)
        obtain ⟨n, rfl⟩ := hG
        clear hH
        go_wp2_with fail
        go_ret
        exact ⟨ret_eq (by rw [Hr.out]; rfl), K.drewN _⟩

set_option maxRecDepth 100000 in
set_option maxHeartbeats 4000000 in
theorem fields_9 (at_ n : Int) (s : ByteArray) (la : Option Addr) (ll lc : Nat) (w : World) (_hs : s.size ≤ 9223372036854775807) (_hn2 : n ≤ 9223372036854775807) :
    Calls Tryd.prog 62 #[.agg #[.int .u8 9, .int .i64 at_, .int .i64 n, .string s, .slice la ll lc]] w fun e w' => e = .returned (.bool (fieldsB 9 at_ n s)) ∧ KB F0 w w' := by
  obtain ⟨w0, rfl⟩ : ∃ w0, w0 = w := ⟨_, rfl⟩
  have Hr : Hid (fieldsB 9 at_ n s = (emptyB s && (n == 0) && decide (0 ≤ at_) && true && true)) := Lib.hid (by
    show (emptyB s && (decide ((0 : Int) ≤ n) && decide (n ≤ (0 : Int))) && decide (0 ≤ at_) && true && true) = _
    rw [eq00])
  obtain ⟨B0, hB0⟩ : ∃ B0, B0 = (w0.alloc (.cells #[.int .u8 9, .int .i64 at_, .int .i64 n, .string s, .slice la ll lc] 25)) := ⟨_, rfl⟩
  have K : KB F0 w0 B0 := by subst hB0; exact (KB.refl _ _).alloc _
  have c0 : B0.cell? ⟨w0.heap.size, 0, none⟩ = some (.int .u8 9) := by subst hB0; exact new_cell _ _ _ 0
  have c1 : B0.cell? ⟨w0.heap.size, 1, none⟩ = some (.int .i64 at_) := by subst hB0; exact new_cell _ _ _ 1
  have c2 : B0.cell? ⟨w0.heap.size, 2, none⟩ = some (.int .i64 n) := by subst hB0; exact new_cell _ _ _ 2
  have c3 : B0.cell? ⟨w0.heap.size, 3, none⟩ = some (.string s) := by subst hB0; exact new_cell _ _ _ 3
  have HB0 := Lib.hid hB0
  clear hB0
  have tE : s.toList.isEmpty = emptyB s := rfl
  generalize emptyB s = bE at tE Hr
  obtain ⟨ba, hba⟩ : ∃ b, decide ((0 : Int) ≤ at_) = b := ⟨_, rfl⟩
  rw [hba] at Hr
  obtain ⟨q0, hq0⟩ : ∃ b, (n == 0) = b := ⟨_, rfl⟩
  rw [hq0] at Hr
  clear _hs _hn2
  cases q0
  · cases bE
    · go_enter Tryd.func62, Tryd.ntmps62
      go_wp2_with fail
      rw [← HB0.out]
      refine wp_region_rv 8 GQ (kindV []) (by kernel_rfl) (by kernel_rfl) GQ.trans GQ.refl (GQ.start _) (kindV_mono _) ?_
      simp only [List.take_succ_cons, List.take_zero, List.drop_succ_cons, List.drop_zero]
      iterate 8 (refine rv_det (by kernel_rfl) rfl (by intro w hG hH; obtain ⟨n, rfl⟩ := hG; go_simp; first | done | with_reducible rfl) ?_; simp only [Act.put, List.setIfInBounds_toArray, List.set_cons_zero, List.set_cons_succ])
      refine rv_nil (fun w hG hH => ?_)
      obtain ⟨n, rfl⟩ := hG
      clear hH
      go_wp2_with fail
      go_ret
      exact ⟨ret_eq (by rw [Hr.out]; rfl), K.drewN _⟩
    · cases ba
      · go_enter Tryd.func62, Tryd.ntmps62
        go_wp2_with fail
        rw [← HB0.out]
        refine wp_region_rv 8 GQ (kindV []) (by kernel_rfl) (by kernel_rfl) GQ.trans GQ.refl (GQ.start _) (kindV_mono _) ?_
        simp only [List.take_succ_cons, List.take_zero, List.drop_succ_cons, List.drop_zero]
        iterate 8 (refine rv_det (by kernel_rfl) rfl (by intro w hG hH; obtain ⟨n, rfl⟩ := hG; go_simp; first | done | with_reducible rfl) ?_; simp only [Act.put, List.setIfInBounds_toArray, List.set_cons_zero, List.set_cons_succ])
        refine rv_nil (fun w hG hH => ?_)
        obtain ⟨n, rfl⟩ := hG
        clear hH
        go_wp2_with fail
        go_ret
        exact ⟨ret_eq (by rw [Hr.out]; rfl), K.drewN _⟩
      · go_enter Tryd.func62, Tryd.ntmps62
        go_wp2_with fail
        rw [← HB0.out]
        refine wp_region_rv 8 GQ (kindV []) (by kernel_rfl) (by kernel_rfl) GQ.trans GQ.refl (GQ.start _) (kindV_mono _) ?_
        simp only [List.take_succ_cons, List.take_zero, List.drop_succ_cons, List.drop_zero]
        iterate 8 (refine rv_det (by kernel_rfl) rfl (by intro w hG hH; obtain ⟨n, rfl⟩ := hG; go_simp; first | done | with_reducible rfl) ?_; simp only [Act.put, List.setIfInBounds_toArray, List.set_cons_zero, List.set_cons_succ])
        refine rv_nil (fun w hG hH => ?_)
        obtain ⟨n, rfl⟩ := hG
        clear hH
        go_wp2_with fail
        go_ret
        exact ⟨ret_eq (by rw [Hr.out]; rfl), K.drewN _⟩
  · cases bE
    · go_enter Tryd.func62, Tryd.ntmps62
      go_wp2_with fail
      rw [← HB0.out]
      refine wp_region_rv 8 GQ (kindV []) (by kernel_rfl) (by kernel_rfl) GQ.trans GQ.refl (GQ.start _) (kindV_mono _) ?_
      simp only [List.take_succ_cons, List.take_zero, List.drop_succ_cons, List.drop_zero]
      iterate 8 (refine rv_det (by kernel_rfl) rfl (by intro w hG hH; obtain ⟨n, rfl⟩ := hG; go_simp; first | done | with_reducible rfl) ?_; simp only [Act.put, List.setIfInBounds_toArray, List.set_cons_zero, List.set_cons_succ])
      refine rv_nil (fun w hG hH => ?_)
      obtain ⟨n, rfl⟩ := hG
      clear hH
      go_wp2_with fail
      go_ret
      exact ⟨ret_eq (by rw [Hr.out]; rfl), K.drewN _⟩
    · cases ba
      · go_enter Tryd.func62, Tryd.ntmps62
        go_wp2_with fail
        rw [← HB0.out]
        refine wp_region_rv 8 GQ (kindV []) (by kernel_rfl) (by kernel_rfl) GQ.trans GQ.refl (GQ.start _) (kindV_mono _) ?_
        simp only [List.take_succ_cons, List.take_zero, List.drop_succ_cons, List.drop_zero]
        iterate 8 (refine rv_det (by kernel_rfl) rfl (by intro w hG hH; obtain ⟨n, rfl⟩ := hG; go_simp; first | done | with_reducible rfl) ?_; simp only [Act.put, List.setIfInBounds_toArray, List.set_cons_zero, List.set_cons_succ])
        refine rv_nil (fun w hG hH => ?_)
        obtain ⟨n, rfl⟩ := hG
        clear hH
        go_wp2_with fail
        go_ret
        exact ⟨ret_eq (by rw [Hr.out]; rfl), K.drewN _⟩
      · go_enter Tryd.func62, Tryd.ntmps62
        go_wp2_with fail
        rw [← HB0.out]
        refine wp_region_rv 8 GQ (kindV []) (by kernel_rfl) (by kernel_rfl) GQ.trans GQ.refl (GQ.start _) (kindV_mono _) ?_
        simp only [List.take_succ_cons, List.take_zero, List.drop_succ_cons, List.drop_zero]
        iterate 8 (refine rv_det (by kernel_rfl) rfl (by intro w hG hH; obtain ⟨n, rfl⟩ := hG; go_simp; first | done | with_reducible rfl) ?_; simp only [Act.put, List.setIfInBounds_toArray, List.set_cons_zero, List.set_cons_succ])
        refine rv_nil (fun w hG hH => ?_)
        obtain ⟨n, rfl⟩ := hG
        clear hH
        go_wp2_with fail
        go_ret
        exact ⟨ret_eq (by rw [Hr.out]; rfl), K.drewN _⟩

end Go.Proofs.YtjefoojkgocinaaDoor

namespace Go.Proofs.YtjefoojkgocinaaDoor
open Go.RowKit
set_option maxRecDepth 100000 in
set_option maxHeartbeats 4000000 in
theorem fields_10 (at_ n : Int) (s : ByteArray) (la : Option Addr) (ll lc : Nat) (w : World) (_hs : s.size ≤ 9223372036854775807) (_hn2 : n ≤ 9223372036854775807) :
    Calls Tryd.prog 62 #[.agg #[.int .u8 10, .int .i64 at_, .int .i64 n, .string s, .slice la ll lc]] w fun e w' => e = .returned (.bool (fieldsB 10 at_ n s)) ∧ KB F0 w w' := by
  obtain ⟨w0, rfl⟩ : ∃ w0, w0 = w := ⟨_, rfl⟩
  have Hr : Hid (fieldsB 10 at_ n s = (emptyB s && (n == 0) && decide (0 ≤ at_) && true && true)) := Lib.hid (by
    show (emptyB s && (decide ((0 : Int) ≤ n) && decide (n ≤ (0 : Int))) && decide (0 ≤ at_) && true && true) = _
    rw [eq00])
  obtain ⟨B0, hB0⟩ : ∃ B0, B0 = (w0.alloc (.cells #[.int .u8 10, .int .i64 at_, .int .i64 n, .string s, .slice la ll lc] 25)) := ⟨_, rfl⟩
  have K : KB F0 w0 B0 := by subst hB0; exact (KB.refl _ _).alloc _
  have c0 : B0.cell? ⟨w0.heap.size, 0, none⟩ = some (.int .u8 10) := by subst hB0; exact new_cell _ _ _ 0
  have c1 : B0.cell? ⟨w0.heap.size, 1, none⟩ = some (.int .i64 at_) := by subst hB0; exact new_cell _ _ _ 1
  have c2 : B0.cell? ⟨w0.heap.size, 2, none⟩ = some (.int .i64 n) := by subst hB0; exact new_cell _ _ _ 2
  have c3 : B0.cell? ⟨w0.heap.size, 3, none⟩ = some (.string s) := by subst hB0; exact new_cell _ _ _ 3
  have HB0 := Lib.hid hB0
  clear hB0
  have tE : s.toList.isEmpty = emptyB s := rfl
  generalize emptyB s = bE at tE Hr
  obtain ⟨ba, hba⟩ : ∃ b, decide ((0 : Int) ≤ at_) = b := ⟨_, rfl⟩
  rw [hba] at Hr
  obtain ⟨q0, hq0⟩ : ∃ b, (n == 0) = b := ⟨_, rfl⟩
  rw [hq0] at Hr
  clear _hs _hn2
  cases q0
  · cases bE
    · go_enter Tryd.func62, Tryd.ntmps62
      go_wp2_with fail
      rw [← HB0.out]
      refine wp_region_rv 8 GQ (kindV []) (by kernel_rfl) (by kernel_rfl) GQ.trans GQ.refl (GQ.start _) (kindV_mono _) ?_
      simp only [List.take_succ_cons, List.take_zero, List.drop_succ_cons, List.drop_zero]
      iterate 8 (refine rv_det (by kernel_rfl) rfl (by intro w hG hH; obtain ⟨n, rfl⟩ := hG; go_simp; first | done | with_reducible rfl) ?_; simp only [Act.put, List.setIfInBounds_toArray, List.set_cons_zero, List.set_cons_succ])
      refine rv_nil (fun w hG hH => ?_)
      obtain ⟨n, rfl⟩ := hG
      clear hH
      go_wp2_with fail
      go_ret
      exact ⟨ret_eq (by rw [Hr.out]; rfl), K.drewN _⟩
    · cases ba
      · go_enter Tryd.func62, Tryd.ntmps62
        go_wp2_with fail
        rw [← HB0.out]
        refine wp_region_rv 8 GQ (kindV []) (by kernel_rfl) (by kernel_rfl) GQ.trans GQ.refl (GQ.start _) (kindV_mono _) ?_
        simp only [List.take_succ_cons, List.take_zero, List.drop_succ_cons, List.drop_zero]
        iterate 8 (refine rv_det (by kernel_rfl) rfl (by intro w hG hH; obtain ⟨n, rfl⟩ := hG; go_simp; first | done | with_reducible rfl) ?_; simp only [Act.put, List.setIfInBounds_toArray, List.set_cons_zero, List.set_cons_succ])
        refine rv_nil (fun w hG hH => ?_)
        obtain ⟨n, rfl⟩ := hG
        clear hH
        go_wp2_with fail
        go_ret
        exact ⟨ret_eq (by rw [Hr.out]; rfl), K.drewN _⟩
      · go_enter Tryd.func62, Tryd.ntmps62
        go_wp2_with fail
        rw [← HB0.out]
        refine wp_region_rv 8 GQ (kindV []) (by kernel_rfl) (by kernel_rfl) GQ.trans GQ.refl (GQ.start _) (kindV_mono _) ?_
        simp only [List.take_succ_cons, List.take_zero, List.drop_succ_cons, List.drop_zero]
        iterate 8 (refine rv_det (by kernel_rfl) rfl (by intro w hG hH; obtain ⟨n, rfl⟩ := hG; go_simp; first | done | with_reducible rfl) ?_; simp only [Act.put, List.setIfInBounds_toArray, List.set_cons_zero, List.set_cons_succ])
        refine rv_nil (fun w hG hH => ?_)
        obtain ⟨n, rfl⟩ := hG
        clear hH
        go_wp2_with fail
        go_ret
        exact ⟨ret_eq (by rw [Hr.out]; rfl), K.drewN _⟩
  · cases bE
    · go_enter Tryd.func62, Tryd.ntmps62
      go_wp2_with fail
      rw [← HB0.out]
      refine wp_region_rv 8 GQ (kindV []) (by kernel_rfl) (by kernel_rfl) GQ.trans GQ.refl (GQ.start _) (kindV_mono _) ?_
      simp only [List.take_succ_cons, List.take_zero, List.drop_succ_cons, List.drop_zero]
      iterate 8 (refine rv_det (by kernel_rfl) rfl (by intro w hG hH; obtain ⟨n, rfl⟩ := hG; go_simp; first | done | with_reducible rfl) ?_; simp only [Act.put, List.setIfInBounds_toArray, List.set_cons_zero, List.set_cons_succ])
      refine rv_nil (fun w hG hH => ?_)
      obtain ⟨n, rfl⟩ := hG
      clear hH
      go_wp2_with fail
      go_ret
      exact ⟨ret_eq (by rw [Hr.out]; rfl), K.drewN _⟩
    · cases ba
      · go_enter Tryd.func62, Tryd.ntmps62
        go_wp2_with fail
        rw [← HB0.out]
        refine wp_region_rv 8 GQ (kindV []) (by kernel_rfl) (by kernel_rfl) GQ.trans GQ.refl (GQ.start _) (kindV_mono _) ?_
        simp only [List.take_succ_cons, List.take_zero, List.drop_succ_cons, List.drop_zero]
        iterate 8 (refine rv_det (by kernel_rfl) rfl (by intro w hG hH; obtain ⟨n, rfl⟩ := hG; go_simp; first | done | with_reducible rfl) ?_; simp only [Act.put, List.setIfInBounds_toArray, List.set_cons_zero, List.set_cons_succ])
        refine rv_nil (fun w hG hH => ?_)
        obtain ⟨n, rfl⟩ := hG
        clear hH
        go_wp2_with fail
        go_ret
        exact ⟨ret_eq (by rw [Hr.out]; rfl), K.drewN _⟩
      · go_enter Tryd.func62, Tryd.ntmps62
        go_wp2_with fail
        rw [← HB0.out]
        refine wp_region_rv 8 GQ (kindV []) (by kernel_rfl) (by kernel_rfl) GQ.trans GQ.refl (GQ.start _) (kindV_mono _) ?_
        simp only [List.take_succ_cons, List.take_zero, List.drop_succ_cons, List.drop_zero]
        iterate 8 (refine rv_det (by kernel_rfl) rfl (by intro w hG hH; obtain ⟨n, rfl⟩ := hG; go_simp; first | done | with_reducible rfl) ?_; simp only [Act.put, List.setIfInBounds_toArray, List.set_cons_zero, List.set_cons_succ])
        refine rv_nil (fun w hG hH => ?_)
        obtain ⟨n, rfl⟩ := hG
        clear hH
        go_wp2_with fail
        go_ret
        exact ⟨ret_eq (by rw [Hr.out]; rfl), K.drewN _⟩

set_option maxRecDepth 100000 in
set_option maxHeartbeats 4000000 in
theorem fields_12 (at_ n : Int) (s : ByteArray) (la : Option Addr) (ll lc : Nat) (w : World) (hs : s.size ≤ 9223372036854775807) (_hn2 : n ≤ 9223372036854775807) :
    Calls Tryd.prog 62 #[.agg #[.int .u8 12, .int .i64 at_, .int .i64 n, .string s, .slice la ll lc]] w fun e w' => e = .returned (.bool (fieldsB 12 at_ n s)) ∧ KB F0 w w' := by
  obtain ⟨w0, rfl⟩ : ∃ w0, w0 = w := ⟨_, rfl⟩
  have Hr : Hid (fieldsB 12 at_ n s = (typeNameB s && (n == 0) && decide (0 ≤ at_) && true && true)) := Lib.hid (by
    show (typeNameB s && (decide ((0 : Int) ≤ n) && decide (n ≤ (0 : Int))) && decide (0 ≤ at_) && true && true) = _
    rw [eq00])
  obtain ⟨B0, hB0⟩ : ∃ B0, B0 = (w0.alloc (.cells #[.int .u8 12, .int .i64 at_, .int .i64 n, .string s, .slice la ll lc] 25)) := ⟨_, rfl⟩
  have K : KB F0 w0 B0 := by subst hB0; exact (KB.refl _ _).alloc _
  have c0 : B0.cell? ⟨w0.heap.size, 0, none⟩ = some (.int .u8 12) := by subst hB0; exact new_cell _ _ _ 0
  have c1 : B0.cell? ⟨w0.heap.size, 1, none⟩ = some (.int .i64 at_) := by subst hB0; exact new_cell _ _ _ 1
  have c2 : B0.cell? ⟨w0.heap.size, 2, none⟩ = some (.int .i64 n) := by subst hB0; exact new_cell _ _ _ 2
  have c3 : B0.cell? ⟨w0.heap.size, 3, none⟩ = some (.string s) := by subst hB0; exact new_cell _ _ _ 3
  have HB0 := Lib.hid hB0
  clear hB0
  have HS := Lib.hid (fun W => ctypeName_any s W hs)
  generalize typeNameB s = bN at HS Hr
  obtain ⟨ba, hba⟩ : ∃ b, decide ((0 : Int) ≤ at_) = b := ⟨_, rfl⟩
  rw [hba] at Hr
  obtain ⟨q0, hq0⟩ : ∃ b, (n == 0) = b := ⟨_, rfl⟩
  rw [hq0] at Hr
  clear hs _hn2
  cases q0
  · cases bN
    · go_enter Tryd.func62, Tryd.ntmps62
      go_wp2_with fail
      rw [← HB0.out]
      refine wp_region_rv 8 GQ (kindV []) (by kernel_rfl) (by kernel_rfl) GQ.trans GQ.refl (GQ.start _) (kindV_mono _) ?_
      simp only [List.take_succ_cons, List.take_zero, List.drop_succ_cons, List.drop_zero]
      iterate 8 (refine rv_det (by kernel_rfl) rfl (by intro w hG hH; obtain ⟨n, rfl⟩ := hG; go_simp; first | done | with_reducible rfl) ?_; simp only [Act.put, List.setIfInBounds_toArray, List.set_cons_zero, List.set_cons_succ])
      refine rv_nil (fun w hG hH => ?_)
      obtain ⟨n, rfl⟩ := hG
      clear hH
      go_wp2_with fail
      refine (HS.out _).mono ?_
      rintro e _ ⟨rfl, rfl⟩
      go_wp2_with fail
      go_ret
      exact ⟨ret_eq (by rw [Hr.out]; rfl), K.drewN _⟩
    · cases ba
      · go_enter Tryd.func62, Tryd.ntmps62
        go_wp2_with fail
        rw [← HB0.out]
        refine wp_region_rv 8 GQ (kindV []) (by kernel_rfl) (by kernel_rfl) GQ.trans GQ.refl (GQ.start _) (kindV_mono _) ?_
        simp only [List.take_succ_cons, List.take_zero, List.drop_succ_cons, List.drop_zero]
        iterate 8 (refine rv_det (by kernel_rfl) rfl (by intro w hG hH; obtain ⟨n, rfl⟩ := hG; go_simp; first | done | with_reducible rfl) ?_; simp only [Act.put, List.setIfInBounds_toArray, List.set_cons_zero, List.set_cons_succ])
        refine rv_nil (fun w hG hH => ?_)
        obtain ⟨n, rfl⟩ := hG
        clear hH
        go_wp2_with fail
        refine (HS.out _).mono ?_
        rintro e _ ⟨rfl, rfl⟩
        go_wp2_with fail
        go_ret
        exact ⟨ret_eq (by rw [Hr.out]; rfl), K.drewN _⟩
      · go_enter Tryd.func62, Tryd.ntmps62
        go_wp2_with fail
        rw [← HB0.out]
        refine wp_region_rv 8 GQ (kindV []) (by kernel_rfl) (by kernel_rfl) GQ.trans GQ.refl (GQ.start _) (kindV_mono _) ?_
        simp only [List.take_succ_cons, List.take_zero, List.drop_succ_cons, List.drop_zero]
        iterate 8 (refine rv_det (by kernel_rfl) rfl (by intro w hG hH; obtain ⟨n, rfl⟩ := hG; go_simp; first | done | with_reducible rfl) ?_; simp only [Act.put, List.setIfInBounds_toArray, List.set_cons_zero, List.set_cons_succ])
        refine rv_nil (fun w hG hH => ?_)
        obtain ⟨n, rfl⟩ := hG
        clear hH
        go_wp2_with fail
        refine (HS.out _).mono ?_
        rintro e _ ⟨rfl, rfl⟩
        go_wp2_with fail
        go_ret
        exact ⟨ret_eq (by rw [Hr.out]; rfl), K.drewN _⟩
  · cases bN
    · go_enter Tryd.func62, Tryd.ntmps62
      go_wp2_with fail
      rw [← HB0.out]
      refine wp_region_rv 8 GQ (kindV []) (by kernel_rfl) (by kernel_rfl) GQ.trans GQ.refl (GQ.start _) (kindV_mono _) ?_
      simp only [List.take_succ_cons, List.take_zero, List.drop_succ_cons, List.drop_zero]
      iterate 8 (refine rv_det (by kernel_rfl) rfl (by intro w hG hH; obtain ⟨n, rfl⟩ := hG; go_simp; first | done | with_reducible rfl) ?_; simp only [Act.put, List.setIfInBounds_toArray, List.set_cons_zero, List.set_cons_succ])
      refine rv_nil (fun w hG hH => ?_)
      obtain ⟨n, rfl⟩ := hG
      clear hH
      go_wp2_with fail
      refine (HS.out _).mono ?_
      rintro e _ ⟨rfl, rfl⟩
      go_wp2_with fail
      go_ret
      exact ⟨ret_eq (by rw [Hr.out]; rfl), K.drewN _⟩
    · cases ba
      · go_enter Tryd.func62, Tryd.ntmps62
        go_wp2_with fail
        rw [← HB0.out]
        refine wp_region_rv 8 GQ (kindV []) (by kernel_rfl) (by kernel_rfl) GQ.trans GQ.refl (GQ.start _) (kindV_mono _) ?_
        simp only [List.take_succ_cons, List.take_zero, List.drop_succ_cons, List.drop_zero]
        iterate 8 (refine rv_det (by kernel_rfl) rfl (by intro w hG hH; obtain ⟨n, rfl⟩ := hG; go_simp; first | done | with_reducible rfl) ?_; simp only [Act.put, List.setIfInBounds_toArray, List.set_cons_zero, List.set_cons_succ])
        refine rv_nil (fun w hG hH => ?_)
        obtain ⟨n, rfl⟩ := hG
        clear hH
        go_wp2_with fail
        refine (HS.out _).mono ?_
        rintro e _ ⟨rfl, rfl⟩
        go_wp2_with fail
        go_ret
        exact ⟨ret_eq (by rw [Hr.out]; rfl), K.drewN _⟩
      · go_enter Tryd.func62, Tryd.ntmps62
        go_wp2_with fail
        rw [← HB0.out]
        refine wp_region_rv 8 GQ (kindV []) (by kernel_rfl) (by kernel_rfl) GQ.trans GQ.refl (GQ.start _) (kindV_mono _) ?_
        simp only [List.take_succ_cons, List.take_zero, List.drop_succ_cons, List.drop_zero]
        iterate 8 (refine rv_det (by kernel_rfl) rfl (by intro w hG hH; obtain ⟨n, rfl⟩ := hG; go_simp; first | done | with_reducible rfl) ?_; simp only [Act.put, List.setIfInBounds_toArray, List.set_cons_zero, List.set_cons_succ])
        refine rv_nil (fun w hG hH => ?_)
        obtain ⟨n, rfl⟩ := hG
        clear hH
        go_wp2_with fail
        refine (HS.out _).mono ?_
        rintro e _ ⟨rfl, rfl⟩
        go_wp2_with fail
        go_ret
        exact ⟨ret_eq (by rw [Hr.out]; rfl), K.drewN _⟩

set_option maxRecDepth 100000 in
set_option maxHeartbeats 4000000 in
theorem fields_13 (at_ n : Int) (s : ByteArray) (la : Option Addr) (ll lc : Nat) (w : World) (_hs : s.size ≤ 9223372036854775807) (_hn2 : n ≤ 9223372036854775807) :
    Calls Tryd.prog 62 #[.agg #[.int .u8 13, .int .i64 at_, .int .i64 n, .string s, .slice la ll lc]] w fun e w' => e = .returned (.bool (fieldsB 13 at_ n s)) ∧ KB F0 w w' := by
  obtain ⟨w0, rfl⟩ : ∃ w0, w0 = w := ⟨_, rfl⟩
  have Hr : Hid (fieldsB 13 at_ n s = (emptyB s && (n == 0) && decide (0 ≤ at_) && true && true)) := Lib.hid (by
    show (emptyB s && (decide ((0 : Int) ≤ n) && decide (n ≤ (0 : Int))) && decide (0 ≤ at_) && true && true) = _
    rw [eq00])
  obtain ⟨B0, hB0⟩ : ∃ B0, B0 = (w0.alloc (.cells #[.int .u8 13, .int .i64 at_, .int .i64 n, .string s, .slice la ll lc] 25)) := ⟨_, rfl⟩
  have K : KB F0 w0 B0 := by subst hB0; exact (KB.refl _ _).alloc _
  have c0 : B0.cell? ⟨w0.heap.size, 0, none⟩ = some (.int .u8 13) := by subst hB0; exact new_cell _ _ _ 0
  have c1 : B0.cell? ⟨w0.heap.size, 1, none⟩ = some (.int .i64 at_) := by subst hB0; exact new_cell _ _ _ 1
  have c2 : B0.cell? ⟨w0.heap.size, 2, none⟩ = some (.int .i64 n) := by subst hB0; exact new_cell _ _ _ 2
  have c3 : B0.cell? ⟨w0.heap.size, 3, none⟩ = some (.string s) := by subst hB0; exact new_cell _ _ _ 3
  have HB0 := Lib.hid hB0
  clear hB0
  have tE : s.toList.isEmpty = emptyB s := rfl
  generalize emptyB s = bE at tE Hr
  obtain ⟨ba, hba⟩ : ∃ b, decide ((0 : Int) ≤ at_) = b := ⟨_, rfl⟩
  rw [hba] at Hr
  obtain ⟨q0, hq0⟩ : ∃ b, (n == 0) = b := ⟨_, rfl⟩
  rw [hq0] at Hr
  clear _hs _hn2
  cases q0
  · cases bE
    · go_enter Tryd.func62, Tryd.ntmps62
      go_wp2_with fail
      rw [← HB0.out]
      refine wp_region_rv 8 GQ (kindV []) (by kernel_rfl) (by kernel_rfl) GQ.trans GQ.refl (GQ.start _) (kindV_mono _) ?_
      simp only [List.take_succ_cons, List.take_zero, List.drop_succ_cons, List.drop_zero]
      iterate 8 (refine rv_det (by kernel_rfl) rfl (by intro w hG hH; obtain ⟨n, rfl⟩ := hG; go_simp; first | done | with_reducible rfl) ?_; simp only [Act.put, List.setIfInBounds_toArray, List.set_cons_zero, List.set_cons_succ])
      refine rv_nil (fun w hG hH => ?_)
      obtain ⟨n, rfl⟩ := hG
      clear hH
      go_wp2_with fail
      go_ret
      exact ⟨ret_eq (by rw [Hr.out]; rfl), K.drewN _⟩
    · cases ba
      · go_enter Tryd.func62, Tryd.ntmps62
        go_wp2_with fail
        rw [← HB0.out]
        refine wp_region_rv 8 GQ (kindV []) (by kernel_rfl) (by kernel_rfl) GQ.trans GQ.refl (GQ.start _) (kindV_mono _) ?_
        simp only [List.take_succ_cons, List.take_zero, List.drop_succ_cons, List.drop_zero]
        iterate 8 (refine rv_det (by kernel_rfl) rfl (by intro w hG hH; obtain ⟨n, rfl⟩ := hG; go_simp; first | done | with_reducible rfl) ?_; simp only [Act.put, List.setIfInBounds_toArray, List.set_cons_zero, List.set_cons_succ])
        refine rv_nil (fun w hG hH => ?_)
        obtain ⟨n, rfl⟩ := hG
        clear hH
        go_wp2_with fail
        go_ret
        exact ⟨ret_eq (by rw [Hr.out]; rfl), K.drewN _⟩
      · go_enter Tryd.func62, Tryd.ntmps62
        go_wp2_with fail
        rw [← HB0.out]
        refine wp_region_rv 8 GQ (kindV []) (by kernel_rfl) (by kernel_rfl) GQ.trans GQ.refl (GQ.start _) (kindV_mono _) ?_
        simp only [List.take_succ_cons, List.take_zero, List.drop_succ_cons, List.drop_zero]
        iterate 8 (refine rv_det (by kernel_rfl) rfl (by intro w hG hH; obtain ⟨n, rfl⟩ := hG; go_simp; first | done | with_reducible rfl) ?_; simp only [Act.put, List.setIfInBounds_toArray, List.set_cons_zero, List.set_cons_succ])
        refine rv_nil (fun w hG hH => ?_)
        obtain ⟨n, rfl⟩ := hG
        clear hH
        go_wp2_with fail
        go_ret
        exact ⟨ret_eq (by rw [Hr.out]; rfl), K.drewN _⟩
  · cases bE
    · go_enter Tryd.func62, Tryd.ntmps62
      go_wp2_with fail
      rw [← HB0.out]
      refine wp_region_rv 8 GQ (kindV []) (by kernel_rfl) (by kernel_rfl) GQ.trans GQ.refl (GQ.start _) (kindV_mono _) ?_
      simp only [List.take_succ_cons, List.take_zero, List.drop_succ_cons, List.drop_zero]
      iterate 8 (refine rv_det (by kernel_rfl) rfl (by intro w hG hH; obtain ⟨n, rfl⟩ := hG; go_simp; first | done | with_reducible rfl) ?_; simp only [Act.put, List.setIfInBounds_toArray, List.set_cons_zero, List.set_cons_succ])
      refine rv_nil (fun w hG hH => ?_)
      obtain ⟨n, rfl⟩ := hG
      clear hH
      go_wp2_with fail
      go_ret
      exact ⟨ret_eq (by rw [Hr.out]; rfl), K.drewN _⟩
    · cases ba
      · go_enter Tryd.func62, Tryd.ntmps62
        go_wp2_with fail
        rw [← HB0.out]
        refine wp_region_rv 8 GQ (kindV []) (by kernel_rfl) (by kernel_rfl) GQ.trans GQ.refl (GQ.start _) (kindV_mono _) ?_
        simp only [List.take_succ_cons, List.take_zero, List.drop_succ_cons, List.drop_zero]
        iterate 8 (refine rv_det (by kernel_rfl) rfl (by intro w hG hH; obtain ⟨n, rfl⟩ := hG; go_simp; first | done | with_reducible rfl) ?_; simp only [Act.put, List.setIfInBounds_toArray, List.set_cons_zero, List.set_cons_succ])
        refine rv_nil (fun w hG hH => ?_)
        obtain ⟨n, rfl⟩ := hG
        clear hH
        go_wp2_with fail
        go_ret
        exact ⟨ret_eq (by rw [Hr.out]; rfl), K.drewN _⟩
      · go_enter Tryd.func62, Tryd.ntmps62
        go_wp2_with fail
        rw [← HB0.out]
        refine wp_region_rv 8 GQ (kindV []) (by kernel_rfl) (by kernel_rfl) GQ.trans GQ.refl (GQ.start _) (kindV_mono _) ?_
        simp only [List.take_succ_cons, List.take_zero, List.drop_succ_cons, List.drop_zero]
        iterate 8 (refine rv_det (by kernel_rfl) rfl (by intro w hG hH; obtain ⟨n, rfl⟩ := hG; go_simp; first | done | with_reducible rfl) ?_; simp only [Act.put, List.setIfInBounds_toArray, List.set_cons_zero, List.set_cons_succ])
        refine rv_nil (fun w hG hH => ?_)
        obtain ⟨n, rfl⟩ := hG
        clear hH
        go_wp2_with fail
        go_ret
        exact ⟨ret_eq (by rw [Hr.out]; rfl), K.drewN _⟩

set_option maxRecDepth 100000 in
set_option maxHeartbeats 4000000 in
theorem fields_15 (at_ n : Int) (s : ByteArray) (la : Option Addr) (ll lc : Nat) (w : World) (_hs : s.size ≤ 9223372036854775807) (_hn2 : n ≤ 9223372036854775807) :
    Calls Tryd.prog 62 #[.agg #[.int .u8 15, .int .i64 at_, .int .i64 n, .string s, .slice la ll lc]] w fun e w' => e = .returned (.bool (fieldsB 15 at_ n s)) ∧ KB F0 w w' := by
  obtain ⟨w0, rfl⟩ : ∃ w0, w0 = w := ⟨_, rfl⟩
  have Hr : Hid (fieldsB 15 at_ n s = (emptyB s && (n == 0) && decide (0 ≤ at_) && true && true)) := Lib.hid (by
    show (emptyB s && (decide ((0 : Int) ≤ n) && decide (n ≤ (0 : Int))) && decide (0 ≤ at_) && true && true) = _
    rw [eq00])
  obtain ⟨B0, hB0⟩ : ∃ B0, B0 = (w0.alloc (.cells #[.int .u8 15, .int .i64 at_, .int .i64 n, .string s, .slice la ll lc] 25)) := ⟨_, rfl⟩
  have K : KB F0 w0 B0 := by subst hB0; exact (KB.refl _ _).alloc _
  have c0 : B0.cell? ⟨w0.heap.size, 0, none⟩ = some (.int .u8 15) := by subst hB0; exact new_cell _ _ _ 0
  have c1 : B0.cell? ⟨w0.heap.size, 1, none⟩ = some (.int .i64 at_) := by subst hB0; exact new_cell _ _ _ 1
  have c2 : B0.cell? ⟨w0.heap.size, 2, none⟩ = some (.int .i64 n) := by subst hB0; exact new_cell _ _ _ 2
  have c3 : B0.cell? ⟨w0.heap.size, 3, none⟩ = some (.string s) := by subst hB0; exact new_cell _ _ _ 3
  have HB0 := Lib.hid hB0
  clear hB0
  have tE : s.toList.isEmpty = emptyB s := rfl
  generalize emptyB s = bE at tE Hr
  obtain ⟨ba, hba⟩ : ∃ b, decide ((0 : Int) ≤ at_) = b := ⟨_, rfl⟩
  rw [hba] at Hr
  obtain ⟨q0, hq0⟩ : ∃ b, (n == 0) = b := ⟨_, rfl⟩
  rw [hq0] at Hr
  clear _hs _hn2
  cases q0
  · cases bE
    · go_enter Tryd.func62, Tryd.ntmps62
      go_wp2_with fail
      rw [← HB0.out]
      refine wp_region_rv 8 GQ (kindV []) (by kernel_rfl) (by kernel_rfl) GQ.trans GQ.refl (GQ.start _) (kindV_mono _) ?_
      simp only [List.take_succ_cons, List.take_zero, List.drop_succ_cons, List.drop_zero]
      iterate 8 (refine rv_det (by kernel_rfl) rfl (by intro w hG hH; obtain ⟨n, rfl⟩ := hG; go_simp; first | done | with_reducible rfl) ?_; simp only [Act.put, List.setIfInBounds_toArray, List.set_cons_zero, List.set_cons_succ])
      refine rv_nil (fun w hG hH => ?_)
      obtain ⟨n, rfl⟩ := hG
      clear hH
      go_wp2_with fail
      go_ret
      exact ⟨ret_eq (by rw [Hr.out]; rfl), K.drewN _⟩
    · cases ba
      · go_enter Tryd.func62, Tryd.ntmps62
        go_wp2_with fail
        rw [← HB0.out]
        refine wp_region_rv 8 GQ (kindV []) (by kernel_rfl) (by kernel_rfl) GQ.trans GQ.refl (GQ.start _) (kindV_mono _) ?_
        simp only [List.take_succ_cons, List.take_zero, List.drop_succ_cons, List.drop_zero]
        iterate 8 (refine rv_det (by kernel_rfl) rfl (by intro w hG hH; obtain ⟨n, rfl⟩ := hG; go_simp; first | done | with_reducible rfl) ?_; simp only [Act.put, List.setIfInBounds_toArray, List.set_cons_zero, List.set_cons_succ])
        refine rv_nil (fun w hG hH => ?_)
        obtain ⟨n, rfl⟩ := hG
        clear hH
        go_wp2_with fail
        go_ret
        exact ⟨ret_eq (by rw [Hr.out]; rfl), K.drewN _⟩
      · go_enter Tryd.func62, Tryd.ntmps62
        go_wp2_with fail
        rw [← HB0.out]
        refine wp_region_rv 8 GQ (kindV []) (by kernel_rfl) (by kernel_rfl) GQ.trans GQ.refl (GQ.start _) (kindV_mono _) ?_
        simp only [List.take_succ_cons, List.take_zero, List.drop_succ_cons, List.drop_zero]
        iterate 8 (refine rv_det (by kernel_rfl) rfl (by intro w hG hH; obtain ⟨n, rfl⟩ := hG; go_simp; first | done | with_reducible rfl) ?_; simp only [Act.put, List.setIfInBounds_toArray, List.set_cons_zero, List.set_cons_succ])
        refine rv_nil (fun w hG hH => ?_)
        obtain ⟨n, rfl⟩ := hG
        clear hH
        go_wp2_with fail
        go_ret
        exact ⟨ret_eq (by rw [Hr.out]; rfl), K.drewN _⟩
  · cases bE
    · go_enter Tryd.func62, Tryd.ntmps62
      go_wp2_with fail
      rw [← HB0.out]
      refine wp_region_rv 8 GQ (kindV []) (by kernel_rfl) (by kernel_rfl) GQ.trans GQ.refl (GQ.start _) (kindV_mono _) ?_
      simp only [List.take_succ_cons, List.take_zero, List.drop_succ_cons, List.drop_zero]
      iterate 8 (refine rv_det (by kernel_rfl) rfl (by intro w hG hH; obtain ⟨n, rfl⟩ := hG; go_simp; first | done | with_reducible rfl) ?_; simp only [Act.put, List.setIfInBounds_toArray, List.set_cons_zero, List.set_cons_succ])
      refine rv_nil (fun w hG hH => ?_)
      obtain ⟨n, rfl⟩ := hG
      clear hH
      go_wp2_with fail
      go_ret
      exact ⟨ret_eq (by rw [Hr.out]; rfl), K.drewN _⟩
    · cases ba
      · go_enter Tryd.func62, Tryd.ntmps62
        go_wp2_with fail
        rw [← HB0.out]
        refine wp_region_rv 8 GQ (kindV []) (by kernel_rfl) (by kernel_rfl) GQ.trans GQ.refl (GQ.start _) (kindV_mono _) ?_
        simp only [List.take_succ_cons, List.take_zero, List.drop_succ_cons, List.drop_zero]
        iterate 8 (refine rv_det (by kernel_rfl) rfl (by intro w hG hH; obtain ⟨n, rfl⟩ := hG; go_simp; first | done | with_reducible rfl) ?_; simp only [Act.put, List.setIfInBounds_toArray, List.set_cons_zero, List.set_cons_succ])
        refine rv_nil (fun w hG hH => ?_)
        obtain ⟨n, rfl⟩ := hG
        clear hH
        go_wp2_with fail
        go_ret
        exact ⟨ret_eq (by rw [Hr.out]; rfl), K.drewN _⟩
      · go_enter Tryd.func62, Tryd.ntmps62
        go_wp2_with fail
        rw [← HB0.out]
        refine wp_region_rv 8 GQ (kindV []) (by kernel_rfl) (by kernel_rfl) GQ.trans GQ.refl (GQ.start _) (kindV_mono _) ?_
        simp only [List.take_succ_cons, List.take_zero, List.drop_succ_cons, List.drop_zero]
        iterate 8 (refine rv_det (by kernel_rfl) rfl (by intro w hG hH; obtain ⟨n, rfl⟩ := hG; go_simp; first | done | with_reducible rfl) ?_; simp only [Act.put, List.setIfInBounds_toArray, List.set_cons_zero, List.set_cons_succ])
        refine rv_nil (fun w hG hH => ?_)
        obtain ⟨n, rfl⟩ := hG
        clear hH
        go_wp2_with fail
        go_ret
        exact ⟨ret_eq (by rw [Hr.out]; rfl), K.drewN _⟩

set_option maxRecDepth 100000 in
set_option maxHeartbeats 4000000 in
theorem fields_17 (at_ n : Int) (s : ByteArray) (la : Option Addr) (ll lc : Nat) (w : World) (_hs : s.size ≤ 9223372036854775807) (_hn2 : n ≤ 9223372036854775807) :
    Calls Tryd.prog 62 #[.agg #[.int .u8 17, .int .i64 at_, .int .i64 n, .string s, .slice la ll lc]] w fun e w' => e = .returned (.bool (fieldsB 17 at_ n s)) ∧ KB F0 w w' := by
  obtain ⟨w0, rfl⟩ : ∃ w0, w0 = w := ⟨_, rfl⟩
  have Hr : Hid (fieldsB 17 at_ n s = (emptyB s && (n == 0) && decide (0 ≤ at_) && true && true)) := Lib.hid (by
    show (emptyB s && (decide ((0 : Int) ≤ n) && decide (n ≤ (0 : Int))) && decide (0 ≤ at_) && true && true) = _
    rw [eq00])
  obtain ⟨B0, hB0⟩ : ∃ B0, B0 = (w0.alloc (.cells #[.int .u8 17, .int .i64 at_, .int .i64 n, .string s, .slice la ll lc] 25)) := ⟨_, rfl⟩
  have K : KB F0 w0 B0 := by subst hB0; exact (KB.refl _ _).alloc _
  have c0 : B0.cell? ⟨w0.heap.size, 0, none⟩ = some (.int .u8 17) := by subst hB0; exact new_cell _ _ _ 0
  have c1 : B0.cell? ⟨w0.heap.size, 1, none⟩ = some (.int .i64 at_) := by subst hB0; exact new_cell _ _ _ 1
  have c2 : B0.cell? ⟨w0.heap.size, 2, none⟩ = some (.int .i64 n) := by subst hB0; exact new_cell _ _ _ 2
  have c3 : B0.cell? ⟨w0.heap.size, 3, none⟩ = some (.string s) := by subst hB0; exact new_cell _ _ _ 3
  have HB0 := Lib.hid hB0
  clear hB0
  have tE : s.toList.isEmpty = emptyB s := rfl
  generalize emptyB s = bE at tE Hr
  obtain ⟨ba, hba⟩ : ∃ b, decide ((0 : Int) ≤ at_) = b := ⟨_, rfl⟩
  rw [hba] at Hr
  obtain ⟨q0, hq0⟩ : ∃ b, (n == 0) = b := ⟨_, rfl⟩
  rw [hq0] at Hr
  clear _hs _hn2
  cases q0
  · cases bE
    · go_enter Tryd.func62, Tryd.ntmps62
      go_wp2_with fail
      rw [← HB0.out]
      refine wp_region_rv 8 GQ (kindV []) (by kernel_rfl) (by kernel_rfl) GQ.trans GQ.refl (GQ.start _) (kindV_mono _) ?_
      simp only [List.take_succ_cons, List.take_zero, List.drop_succ_cons, List.drop_zero]
      iterate 8 (refine rv_det (by kernel_rfl) rfl (by intro w hG hH; obtain ⟨n, rfl⟩ := hG; go_simp; first | done | with_reducible rfl) ?_; simp only [Act.put, List.setIfInBounds_toArray, List.set_cons_zero, List.set_cons_succ])
      refine rv_nil (fun w hG hH => ?_)
      obtain ⟨n, rfl⟩ := hG
      clear hH
      go_wp2_with fail
      go_ret
      exact ⟨ret_eq (by rw [Hr.out]; rfl), K.drewN _⟩
    · cases ba
      · go_enter Tryd.func62, Tryd.ntmps62
        go_wp2_with fail
        rw [← HB0.out]
        refine wp_region_rv 8 GQ (kindV []) (by kernel_rfl) (by kernel_rfl) GQ.trans GQ.refl (GQ.start _) (kindV_mono _) ?_
        simp only [List.take_succ_cons, List.take_zero, List.drop_succ_cons, List.drop_zero]
        iterate 8 (refine rv_det (by kernel_rfl) rfl (by intro w hG hH; obtain ⟨n, rfl⟩ := hG; go_simp; first | done | with_reducible rfl) ?_; simp only [Act.put, List.setIfInBounds_toArray, List.set_cons_zero, List.set_cons_succ])
        refine rv_nil (fun w hG hH => ?_)
        obtain ⟨n, rfl⟩ := hG
        clear hH
        go_wp2_with fail
        go_ret
        exact ⟨ret_eq (by rw [Hr.out]; rfl), K.drewN _⟩
      · go_enter Tryd.func62, Tryd.ntmps62
        go_wp2_with fail
        rw [← HB0.out]
        refine wp_region_rv 8 GQ (kindV []) (by kernel_rfl) (by kernel_rfl) GQ.trans GQ.refl (GQ.start _) (kindV_mono _) ?_
        simp only [List.take_succ_cons, List.take_zero, List.drop_succ_cons, List.drop_zero]
        iterate 8 (refine rv_det (by kernel_rfl) rfl (by intro w hG hH; obtain ⟨n, rfl⟩ := hG; go_simp; first | done | with_reducible rfl) ?_; simp only [Act.put, List.setIfInBounds_toArray, List.set_cons_zero, List.set_cons_succ])
        refine rv_nil (fun w hG hH => ?_)
        obtain ⟨n, rfl⟩ := hG
        clear hH
        go_wp2_with fail
        go_ret
        exact ⟨ret_eq (by rw [Hr.out]; rfl), K.drewN _⟩
  · cases bE
    · go_enter Tryd.func62, Tryd.ntmps62
      go_wp2_with fail
      rw [← HB0.out]
      refine wp_region_rv 8 GQ (kindV []) (by kernel_rfl) (by kernel_rfl) GQ.trans GQ.refl (GQ.start _) (kindV_mono _) ?_
      simp only [List.take_succ_cons, List.take_zero, List.drop_succ_cons, List.drop_zero]
      iterate 8 (refine rv_det (by kernel_rfl) rfl (by intro w hG hH; obtain ⟨n, rfl⟩ := hG; go_simp; first | done | with_reducible rfl) ?_; simp only [Act.put, List.setIfInBounds_toArray, List.set_cons_zero, List.set_cons_succ])
      refine rv_nil (fun w hG hH => ?_)
      obtain ⟨n, rfl⟩ := hG
      clear hH
      go_wp2_with fail
      go_ret
      exact ⟨ret_eq (by rw [Hr.out]; rfl), K.drewN _⟩
    · cases ba
      · go_enter Tryd.func62, Tryd.ntmps62
        go_wp2_with fail
        rw [← HB0.out]
        refine wp_region_rv 8 GQ (kindV []) (by kernel_rfl) (by kernel_rfl) GQ.trans GQ.refl (GQ.start _) (kindV_mono _) ?_
        simp only [List.take_succ_cons, List.take_zero, List.drop_succ_cons, List.drop_zero]
        iterate 8 (refine rv_det (by kernel_rfl) rfl (by intro w hG hH; obtain ⟨n, rfl⟩ := hG; go_simp; first | done | with_reducible rfl) ?_; simp only [Act.put, List.setIfInBounds_toArray, List.set_cons_zero, List.set_cons_succ])
        refine rv_nil (fun w hG hH => ?_)
        obtain ⟨n, rfl⟩ := hG
        clear hH
        go_wp2_with fail
        go_ret
        exact ⟨ret_eq (by rw [Hr.out]; rfl), K.drewN _⟩
      · go_enter Tryd.func62, Tryd.ntmps62
        go_wp2_with fail
        rw [← HB0.out]
        refine wp_region_rv 8 GQ (kindV []) (by kernel_rfl) (by kernel_rfl) GQ.trans GQ.refl (GQ.start _) (kindV_mono _) ?_
        simp only [List.take_succ_cons, List.take_zero, List.drop_succ_cons, List.drop_zero]
        iterate 8 (refine rv_det (by kernel_rfl) rfl (by intro w hG hH; obtain ⟨n, rfl⟩ := hG; go_simp; first | done | with_reducible rfl) ?_; simp only [Act.put, List.setIfInBounds_toArray, List.set_cons_zero, List.set_cons_succ])
        refine rv_nil (fun w hG hH => ?_)
        obtain ⟨n, rfl⟩ := hG
        clear hH
        go_wp2_with fail
        go_ret
        exact ⟨ret_eq (by rw [Hr.out]; rfl), K.drewN _⟩

set_option maxRecDepth 100000 in
set_option maxHeartbeats 4000000 in
theorem fields_18 (at_ n : Int) (s : ByteArray) (la : Option Addr) (ll lc : Nat) (w : World) (_hs : s.size ≤ 9223372036854775807) (_hn2 : n ≤ 9223372036854775807) :
    Calls Tryd.prog 62 #[.agg #[.int .u8 18, .int .i64 at_, .int .i64 n, .string s, .slice la ll lc]] w fun e w' => e = .returned (.bool (fieldsB 18 at_ n s)) ∧ KB F0 w w' := by
  obtain ⟨w0, rfl⟩ : ∃ w0, w0 = w := ⟨_, rfl⟩
  have Hr : Hid (fieldsB 18 at_ n s = (emptyB s && (n == 0) && decide (0 ≤ at_) && true && true)) := Lib.hid (by
    show (emptyB s && (decide ((0 : Int) ≤ n) && decide (n ≤ (0 : Int))) && decide (0 ≤ at_) && true && true) = _
    rw [eq00])
  obtain ⟨B0, hB0⟩ : ∃ B0, B0 = (w0.alloc (.cells #[.int .u8 18, .int .i64 at_, .int .i64 n, .string s, .slice la ll lc] 25)) := ⟨_, rfl⟩
  have K : KB F0 w0 B0 := by subst hB0; exact (KB.refl _ _).alloc _
  have c0 : B0.cell? ⟨w0.heap.size, 0, none⟩ = some (.int .u8 18) := by subst hB0; exact new_cell _ _ _ 0
  have c1 : B0.cell? ⟨w0.heap.size, 1, none⟩ = some (.int .i64 at_) := by subst hB0; exact new_cell _ _ _ 1
  have c2 : B0.cell? ⟨w0.heap.size, 2, none⟩ = some (.int .i64 n) := by subst hB0; exact new_cell _ _ _ 2
  have c3 : B0.cell? ⟨w0.heap.size, 3, none⟩ = some (.string s) := by subst hB0; exact new_cell _ _ _ 3
  have HB0 := Lib.hid hB0
  clear hB0
  have tE : s.toList.isEmpty = emptyB s := rfl
  generalize emptyB s = bE at tE Hr
  obtain ⟨ba, hba⟩ : ∃ b, decide ((0 : Int) ≤ at_) = b := ⟨_, rfl⟩
  rw [hba] at Hr
  obtain ⟨q0, hq0⟩ : ∃ b, (n == 0) = b := ⟨_, rfl⟩
  rw [hq0] at Hr
  clear _hs _hn2
  cases q0
  · cases bE
    · go_enter Tryd.func62, Tryd.ntmps62
      go_wp2_with fail
      rw [← HB0.out]
      refine wp_region_rv 8 GQ (kindV []) (by kernel_rfl) (by kernel_rfl) GQ.trans GQ.refl (GQ.start _) (kindV_mono _) ?_
      simp only [List.take_succ_cons, List.take_zero, List.drop_succ_cons, List.drop_zero]
      iterate 8 (refine rv_det (by kernel_rfl) rfl (by intro w hG hH; obtain ⟨n, rfl⟩ := hG; go_simp; first | done | with_reducible rfl) ?_; simp only [Act.put, List.setIfInBounds_toArray, List.set_cons_zero, List.set_cons_succ])
      refine rv_nil (fun w hG hH => ?_)
      obtain ⟨n, rfl⟩ := hG
      clear hH
      go_wp2_with fail
      go_ret
      exact ⟨ret_eq (by rw [Hr.out]; rfl), K.drewN _⟩
    · cases ba
      · go_enter Tryd.func62, Tryd.ntmps62
        go_wp2_with fail
        rw [← HB0.out]
        refine wp_region_rv 8 GQ (kindV []) (by kernel_rfl) (by kernel_rfl) GQ.trans GQ.refl (GQ.start _) (kindV_mono _) ?_
        simp only [List.take_succ_cons, List.take_zero, List.drop_succ_cons, List.drop_zero]
        iterate 8 (refine rv_det (by kernel_rfl) rfl (by intro w hG hH; obtain ⟨n, rfl⟩ := hG; go_simp; first | done | with_reducible rfl) ?_; simp only [Act.put, List.setIfInBounds_toArray, List.set_cons_zero, List.set_cons_succ])
        refine rv_nil (fun w hG hH => ?_)
        obtain ⟨n, rfl⟩ := hG
        clear hH
        go_wp2_with fail
        go_ret
        exact ⟨ret_eq (by rw [Hr.out]; rfl), K.drewN _⟩
      · go_enter Tryd.func62, Tryd.ntmps62
        go_wp2_with fail
        rw [← HB0.out]
        refine wp_region_rv 8 GQ (kindV []) (by kernel_rfl) (by kernel_rfl) GQ.trans GQ.refl (GQ.start _) (kindV_mono _) ?_
        simp only [List.take_succ_cons, List.take_zero, List.drop_succ_cons, List.drop_zero]
        iterate 8 (refine rv_det (by kernel_rfl) rfl (by intro w hG hH; obtain ⟨n, rfl⟩ := hG; go_simp; first | done | with_reducible rfl) ?_; simp only [Act.put, List.setIfInBounds_toArray, List.set_cons_zero, List.set_cons_succ])
        refine rv_nil (fun w hG hH => ?_)
        obtain ⟨n, rfl⟩ := hG
        clear hH
        go_wp2_with fail
        go_ret
        exact ⟨ret_eq (by rw [Hr.out]; rfl), K.drewN _⟩
  · cases bE
    · go_enter Tryd.func62, Tryd.ntmps62
      go_wp2_with fail
      rw [← HB0.out]
      refine wp_region_rv 8 GQ (kindV []) (by kernel_rfl) (by kernel_rfl) GQ.trans GQ.refl (GQ.start _) (kindV_mono _) ?_
      simp only [List.take_succ_cons, List.take_zero, List.drop_succ_cons, List.drop_zero]
      iterate 8 (refine rv_det (by kernel_rfl) rfl (by intro w hG hH; obtain ⟨n, rfl⟩ := hG; go_simp; first | done | with_reducible rfl) ?_; simp only [Act.put, List.setIfInBounds_toArray, List.set_cons_zero, List.set_cons_succ])
      refine rv_nil (fun w hG hH => ?_)
      obtain ⟨n, rfl⟩ := hG
      clear hH
      go_wp2_with fail
      go_ret
      exact ⟨ret_eq (by rw [Hr.out]; rfl), K.drewN _⟩
    · cases ba
      · go_enter Tryd.func62, Tryd.ntmps62
        go_wp2_with fail
        rw [← HB0.out]
        refine wp_region_rv 8 GQ (kindV []) (by kernel_rfl) (by kernel_rfl) GQ.trans GQ.refl (GQ.start _) (kindV_mono _) ?_
        simp only [List.take_succ_cons, List.take_zero, List.drop_succ_cons, List.drop_zero]
        iterate 8 (refine rv_det (by kernel_rfl) rfl (by intro w hG hH; obtain ⟨n, rfl⟩ := hG; go_simp; first | done | with_reducible rfl) ?_; simp only [Act.put, List.setIfInBounds_toArray, List.set_cons_zero, List.set_cons_succ])
        refine rv_nil (fun w hG hH => ?_)
        obtain ⟨n, rfl⟩ := hG
        clear hH
        go_wp2_with fail
        go_ret
        exact ⟨ret_eq (by rw [Hr.out]; rfl), K.drewN _⟩
      · go_enter Tryd.func62, Tryd.ntmps62
        go_wp2_with fail
        rw [← HB0.out]
        refine wp_region_rv 8 GQ (kindV []) (by kernel_rfl) (by kernel_rfl) GQ.trans GQ.refl (GQ.start _) (kindV_mono _) ?_
        simp only [List.take_succ_cons, List.take_zero, List.drop_succ_cons, List.drop_zero]
        iterate 8 (refine rv_det (by kernel_rfl) rfl (by intro w hG hH; obtain ⟨n, rfl⟩ := hG; go_simp; first | done | with_reducible rfl) ?_; simp only [Act.put, List.setIfInBounds_toArray, List.set_cons_zero, List.set_cons_succ])
        refine rv_nil (fun w hG hH => ?_)
        obtain ⟨n, rfl⟩ := hG
        clear hH
        go_wp2_with fail
        go_ret
        exact ⟨ret_eq (by rw [Hr.out]; rfl), K.drewN _⟩

set_option maxRecDepth 100000 in
set_option maxHeartbeats 4000000 in
theorem fields_19 (at_ n : Int) (s : ByteArray) (la : Option Addr) (ll lc : Nat) (w : World) (_hs : s.size ≤ 9223372036854775807) (_hn2 : n ≤ 9223372036854775807) :
    Calls Tryd.prog 62 #[.agg #[.int .u8 19, .int .i64 at_, .int .i64 n, .string s, .slice la ll lc]] w fun e w' => e = .returned (.bool (fieldsB 19 at_ n s)) ∧ KB F0 w w' := by
  obtain ⟨w0, rfl⟩ : ∃ w0, w0 = w := ⟨_, rfl⟩
  have Hr : Hid (fieldsB 19 at_ n s = (emptyB s && (n == 0) && decide (0 ≤ at_) && true && true)) := Lib.hid (by
    show (emptyB s && (decide ((0 : Int) ≤ n) && decide (n ≤ (0 : Int))) && decide (0 ≤ at_) && true && true) = _
    rw [eq00])
  obtain ⟨B0, hB0⟩ : ∃ B0, B0 = (w0.alloc (.cells #[.int .u8 19, .int .i64 at_, .int .i64 n, .string s, .slice la ll lc] 25)) := ⟨_, rfl⟩
  have K : KB F0 w0 B0 := by subst hB0; exact (KB.refl _ _).alloc _
  have c0 : B0.cell? ⟨w0.heap.size, 0, none⟩ = some (.int .u8 19) := by subst hB0; exact new_cell _ _ _ 0
  have c1 : B0.cell? ⟨w0.heap.size, 1, none⟩ = some (.int .i64 at_) := by subst hB0; exact new_cell _ _ _ 1
  have c2 : B0.cell? ⟨w0.heap.size, 2, none⟩ = some (.int .i64 n) := by subst hB0; exact new_cell _ _ _ 2
  have c3 : B0.cell? ⟨w0.heap.size, 3, none⟩ = some (.string s) := by subst hB0; exact new_cell _ _ _ 3
  have HB0 := Lib.hid hB0
  clear hB0
  have tE : s.toList.isEmpty = emptyB s := rfl
  generalize emptyB s = bE at tE Hr
  obtain ⟨ba, hba⟩ : ∃ b, decide ((0 : Int) ≤ at_) = b := ⟨_, rfl⟩
  rw [hba] at Hr
  obtain ⟨q0, hq0⟩ : ∃ b, (n == 0) = b := ⟨_, rfl⟩
  rw [hq0] at Hr
  clear _hs _hn2
  cases q0
  · cases bE
    · go_enter Tryd.func62, Tryd.ntmps62
      go_wp2_with fail
      rw [← HB0.out]
      refine wp_region_rv 8 GQ (kindV []) (by kernel_rfl) (by kernel_rfl) GQ.trans GQ.refl (GQ.start _) (kindV_mono _) ?_
      simp only [List.take_succ_cons, List.take_zero, List.drop_succ_cons, List.drop_zero]
      iterate 8 (refine rv_det (by kernel_rfl) rfl (by intro w hG hH; obtain ⟨n, rfl⟩ := hG; go_simp; first | done | with_reducible rfl) ?_; simp only [Act.put, List.setIfInBounds_toArray, List.set_cons_zero, List.set_cons_succ])
      refine rv_nil (fun w hG hH => ?_)
      obtain ⟨n, rfl⟩ := hG
      clear hH
      go_wp2_with fail
      go_ret
      exact ⟨ret_eq (by rw [Hr.out]; rfl), K.drewN _⟩
    · cases ba
      · go_enter Tryd.func62, Tryd.ntmps62
        go_wp2_with fail
        rw [← HB0.out]
        refine wp_region_rv 8 GQ (kindV []) (by kernel_rfl) (by kernel_rfl) GQ.trans GQ.refl (GQ.start _) (kindV_mono _) ?_
        simp only [List.take_succ_cons, List.take_zero, List.drop_succ_cons, List.drop_zero]
        iterate 8 (refine rv_det (by kernel_rfl) rfl (by intro w hG hH; obtain ⟨n, rfl⟩ := hG; go_simp; first | done | with_reducible rfl) ?_; simp only [Act.put, List.setIfInBounds_toArray, List.set_cons_zero, List.set_cons_succ])
        refine rv_nil (fun w hG hH => ?_)
        obtain ⟨n, rfl⟩ := hG
        clear hH
        go_wp2_with fail
        go_ret
        exact ⟨ret_eq (by rw [Hr.out]; rfl), K.drewN _⟩
      · go_enter Tryd.func62, Tryd.ntmps62
        go_wp2_with fail
        rw [← HB0.out]
        refine wp_region_rv 8 GQ (kindV []) (by kernel_rfl) (by kernel_rfl) GQ.trans GQ.refl (GQ.start _) (kindV_mono _) ?_
        simp only [List.take_succ_cons, List.take_zero, List.drop_succ_cons, List.drop_zero]
        iterate 8 (refine rv_det (by kernel_rfl) rfl (by intro w hG hH; obtain ⟨n, rfl⟩ := hG; go_simp; first | done | with_reducible rfl) ?_; simp only [Act.put, List.setIfInBounds_toArray, List.set_cons_zero, List.set_cons_succ])
        refine rv_nil (fun w hG hH => ?_)
        obtain ⟨n, rfl⟩ := hG
        clear hH
        go_wp2_with fail
        go_ret
        exact ⟨ret_eq (by rw [Hr.out]; rfl), K.drewN _⟩
  · cases bE
    · go_enter Tryd.func62, Tryd.ntmps62
      go_wp2_with fail
      rw [← HB0.out]
      refine wp_region_rv 8 GQ (kindV []) (by kernel_rfl) (by kernel_rfl) GQ.trans GQ.refl (GQ.start _) (kindV_mono _) ?_
      simp only [List.take_succ_cons, List.take_zero, List.drop_succ_cons, List.drop_zero]
      iterate 8 (refine rv_det (by kernel_rfl) rfl (by intro w hG hH; obtain ⟨n, rfl⟩ := hG; go_simp; first | done | with_reducible rfl) ?_; simp only [Act.put, List.setIfInBounds_toArray, List.set_cons_zero, List.set_cons_succ])
      refine rv_nil (fun w hG hH => ?_)
      obtain ⟨n, rfl⟩ := hG
      clear hH
      go_wp2_with fail
      go_ret
      exact ⟨ret_eq (by rw [Hr.out]; rfl), K.drewN _⟩
    · cases ba
      · go_enter Tryd.func62, Tryd.ntmps62
        go_wp2_with fail
        rw [← HB0.out]
        refine wp_region_rv 8 GQ (kindV []) (by kernel_rfl) (by kernel_rfl) GQ.trans GQ.refl (GQ.start _) (kindV_mono _) ?_
        simp only [List.take_succ_cons, List.take_zero, List.drop_succ_cons, List.drop_zero]
        iterate 8 (refine rv_det (by kernel_rfl) rfl (by intro w hG hH; obtain ⟨n, rfl⟩ := hG; go_simp; first | done | with_reducible rfl) ?_; simp only [Act.put, List.setIfInBounds_toArray, List.set_cons_zero, List.set_cons_succ])
        refine rv_nil (fun w hG hH => ?_)
        obtain ⟨n, rfl⟩ := hG
        clear hH
        go_wp2_with fail
        go_ret
        exact ⟨ret_eq (by rw [Hr.out]; rfl), K.drewN _⟩
      · go_enter Tryd.func62, Tryd.ntmps62
        go_wp2_with fail
        rw [← HB0.out]
        refine wp_region_rv 8 GQ (kindV []) (by kernel_rfl) (by kernel_rfl) GQ.trans GQ.refl (GQ.start _) (kindV_mono _) ?_
        simp only [List.take_succ_cons, List.take_zero, List.drop_succ_cons, List.drop_zero]
        iterate 8 (refine rv_det (by kernel_rfl) rfl (by intro w hG hH; obtain ⟨n, rfl⟩ := hG; go_simp; first | done | with_reducible rfl) ?_; simp only [Act.put, List.setIfInBounds_toArray, List.set_cons_zero, List.set_cons_succ])
        refine rv_nil (fun w hG hH => ?_)
        obtain ⟨n, rfl⟩ := hG
        clear hH
        go_wp2_with fail
        go_ret
        exact ⟨ret_eq (by rw [Hr.out]; rfl), K.drewN _⟩

end Go.Proofs.YtjefoojkgocinaaDoor

namespace Go.Proofs.YtjefoojkgocinaaDoor
open Go.RowKit
set_option maxRecDepth 100000 in
set_option maxHeartbeats 4000000 in
theorem fields_20 (at_ n : Int) (s : ByteArray) (la : Option Addr) (ll lc : Nat) (w : World) (_hs : s.size ≤ 9223372036854775807) (_hn2 : n ≤ 9223372036854775807) :
    Calls Tryd.prog 62 #[.agg #[.int .u8 20, .int .i64 at_, .int .i64 n, .string s, .slice la ll lc]] w fun e w' => e = .returned (.bool (fieldsB 20 at_ n s)) ∧ KB F0 w w' := by
  obtain ⟨w0, rfl⟩ : ∃ w0, w0 = w := ⟨_, rfl⟩
  have Hr : Hid (fieldsB 20 at_ n s = (emptyB s && (n == 0) && decide (0 ≤ at_) && true && true)) := Lib.hid (by
    show (emptyB s && (decide ((0 : Int) ≤ n) && decide (n ≤ (0 : Int))) && decide (0 ≤ at_) && true && true) = _
    rw [eq00])
  obtain ⟨B0, hB0⟩ : ∃ B0, B0 = (w0.alloc (.cells #[.int .u8 20, .int .i64 at_, .int .i64 n, .string s, .slice la ll lc] 25)) := ⟨_, rfl⟩
  have K : KB F0 w0 B0 := by subst hB0; exact (KB.refl _ _).alloc _
  have c0 : B0.cell? ⟨w0.heap.size, 0, none⟩ = some (.int .u8 20) := by subst hB0; exact new_cell _ _ _ 0
  have c1 : B0.cell? ⟨w0.heap.size, 1, none⟩ = some (.int .i64 at_) := by subst hB0; exact new_cell _ _ _ 1
  have c2 : B0.cell? ⟨w0.heap.size, 2, none⟩ = some (.int .i64 n) := by subst hB0; exact new_cell _ _ _ 2
  have c3 : B0.cell? ⟨w0.heap.size, 3, none⟩ = some (.string s) := by subst hB0; exact new_cell _ _ _ 3
  have HB0 := Lib.hid hB0
  clear hB0
  have tE : s.toList.isEmpty = emptyB s := rfl
  generalize emptyB s = bE at tE Hr
  obtain ⟨ba, hba⟩ : ∃ b, decide ((0 : Int) ≤ at_) = b := ⟨_, rfl⟩
  rw [hba] at Hr
  obtain ⟨q0, hq0⟩ : ∃ b, (n == 0) = b := ⟨_, rfl⟩
  rw [hq0] at Hr
  clear _hs _hn2
  cases q0
  · cases bE
    · go_enter Tryd.func62, Tryd.ntmps62
      go_wp2_with fail
      rw [← HB0.out]
      refine wp_region_rv 8 GQ (kindV []) (by kernel_rfl) (by kernel_rfl) GQ.trans GQ.refl (GQ.start _) (kindV_mono _) ?_
      simp only [List.take_succ_cons, List.take_zero, List.drop_succ_cons, List.drop_zero]
      iterate 8 (refine rv_det (by kernel_rfl) rfl (by intro w hG hH; obtain ⟨n, rfl⟩ := hG; go_simp; first | done | with_reducible rfl) ?_; simp only [Act.put, List.setIfInBounds_toArray, List.set_cons_zero, List.set_cons_succ])
      refine rv_nil (fun w hG hH => ?_)
      obtain ⟨n, rfl⟩ := hG
      clear hH
      go_wp2_with fail
      go_ret
      exact ⟨ret_eq (by rw [Hr.out]; rfl), K.drewN _⟩
    · cases ba
      · go_enter Tryd.func62, Tryd.ntmps62
        go_wp2_with fail
        rw [← HB0.out]
        refine wp_region_rv 8 GQ (kindV []) (by kernel_rfl) (by kernel_rfl) GQ.trans GQ.refl (GQ.start _) (kindV_mono _) ?_
        simp only [List.take_succ_cons, List.take_zero, List.drop_succ_cons, List.drop_zero]
        iterate 8 (refine rv_det (by kernel_rfl) rfl (by intro w hG hH; obtain ⟨n, rfl⟩ := hG; go_simp; first | done | with_reducible rfl) ?_; simp only [Act.put, List.setIfInBounds_toArray, List.set_cons_zero, List.set_cons_succ])
        refine rv_nil (fun w hG hH => ?_)
        obtain ⟨n, rfl⟩ := hG
        clear hH
        go_wp2_with fail
        go_ret
        exact ⟨ret_eq (by rw [Hr.out]; rfl), K.drewN _⟩
      · go_enter Tryd.func62, Tryd.ntmps62
        go_wp2_with fail
        rw [← HB0.out]
        refine wp_region_rv 8 GQ (kindV []) (by kernel_rfl) (by kernel_rfl) GQ.trans GQ.refl (GQ.start _) (kindV_mono _) ?_
        simp only [List.take_succ_cons, List.take_zero, List.drop_succ_cons, List.drop_zero]
        iterate 8 (refine rv_det (by kernel_rfl) rfl (by intro w hG hH; obtain ⟨n, rfl⟩ := hG; go_simp; first | done | with_reducible rfl) ?_; simp only [Act.put, List.setIfInBounds_toArray, List.set_cons_zero, List.set_cons_succ])
        refine rv_nil (fun w hG hH => ?_)
        obtain ⟨n, rfl⟩ := hG
        clear hH
        go_wp2_with fail
        go_ret
        exact ⟨ret_eq (by rw [Hr.out]; rfl), K.drewN _⟩
  · cases bE
    · go_enter Tryd.func62, Tryd.ntmps62
      go_wp2_with fail
      rw [← HB0.out]
      refine wp_region_rv 8 GQ (kindV []) (by kernel_rfl) (by kernel_rfl) GQ.trans GQ.refl (GQ.start _) (kindV_mono _) ?_
      simp only [List.take_succ_cons, List.take_zero, List.drop_succ_cons, List.drop_zero]
      iterate 8 (refine rv_det (by kernel_rfl) rfl (by intro w hG hH; obtain ⟨n, rfl⟩ := hG; go_simp; first | done | with_reducible rfl) ?_; simp only [Act.put, List.setIfInBounds_toArray, List.set_cons_zero, List.set_cons_succ])
      refine rv_nil (fun w hG hH => ?_)
      obtain ⟨n, rfl⟩ := hG
      clear hH
      go_wp2_with fail
      go_ret
      exact ⟨ret_eq (by rw [Hr.out]; rfl), K.drewN _⟩
    · cases ba
      · go_enter Tryd.func62, Tryd.ntmps62
        go_wp2_with fail
        rw [← HB0.out]
        refine wp_region_rv 8 GQ (kindV []) (by kernel_rfl) (by kernel_rfl) GQ.trans GQ.refl (GQ.start _) (kindV_mono _) ?_
        simp only [List.take_succ_cons, List.take_zero, List.drop_succ_cons, List.drop_zero]
        iterate 8 (refine rv_det (by kernel_rfl) rfl (by intro w hG hH; obtain ⟨n, rfl⟩ := hG; go_simp; first | done | with_reducible rfl) ?_; simp only [Act.put, List.setIfInBounds_toArray, List.set_cons_zero, List.set_cons_succ])
        refine rv_nil (fun w hG hH => ?_)
        obtain ⟨n, rfl⟩ := hG
        clear hH
        go_wp2_with fail
        go_ret
        exact ⟨ret_eq (by rw [Hr.out]; rfl), K.drewN _⟩
      · go_enter Tryd.func62, Tryd.ntmps62
        go_wp2_with fail
        rw [← HB0.out]
        refine wp_region_rv 8 GQ (kindV []) (by kernel_rfl) (by kernel_rfl) GQ.trans GQ.refl (GQ.start _) (kindV_mono _) ?_
        simp only [List.take_succ_cons, List.take_zero, List.drop_succ_cons, List.drop_zero]
        iterate 8 (refine rv_det (by kernel_rfl) rfl (by intro w hG hH; obtain ⟨n, rfl⟩ := hG; go_simp; first | done | with_reducible rfl) ?_; simp only [Act.put, List.setIfInBounds_toArray, List.set_cons_zero, List.set_cons_succ])
        refine rv_nil (fun w hG hH => ?_)
        obtain ⟨n, rfl⟩ := hG
        clear hH
        go_wp2_with fail
        go_ret
        exact ⟨ret_eq (by rw [Hr.out]; rfl), K.drewN _⟩

set_option maxRecDepth 100000 in
set_option maxHeartbeats 4000000 in
theorem fields_21 (at_ n : Int) (s : ByteArray) (la : Option Addr) (ll lc : Nat) (w : World) (_hs : s.size ≤ 9223372036854775807) (_hn2 : n ≤ 9223372036854775807) :
    Calls Tryd.prog 62 #[.agg #[.int .u8 21, .int .i64 at_, .int .i64 n, .string s, .slice la ll lc]] w fun e w' => e = .returned (.bool (fieldsB 21 at_ n s)) ∧ KB F0 w w' := by
  obtain ⟨w0, rfl⟩ : ∃ w0, w0 = w := ⟨_, rfl⟩
  have Hr : Hid (fieldsB 21 at_ n s = (emptyB s && (n == 0) && decide (0 ≤ at_) && true && true)) := Lib.hid (by
    show (emptyB s && (decide ((0 : Int) ≤ n) && decide (n ≤ (0 : Int))) && decide (0 ≤ at_) && true && true) = _
    rw [eq00])
  obtain ⟨B0, hB0⟩ : ∃ B0, B0 = (w0.alloc (.cells #[.int .u8 21, .int .i64 at_, .int .i64 n, .string s, .slice la ll lc] 25)) := ⟨_, rfl⟩
  have K : KB F0 w0 B0 := by subst hB0; exact (KB.refl _ _).alloc _
  have c0 : B0.cell? ⟨w0.heap.size, 0, none⟩ = some (.int .u8 21) := by subst hB0; exact new_cell _ _ _ 0
  have c1 : B0.cell? ⟨w0.heap.size, 1, none⟩ = some (.int .i64 at_) := by subst hB0; exact new_cell _ _ _ 1
  have c2 : B0.cell? ⟨w0.heap.size, 2, none⟩ = some (.int .i64 n) := by subst hB0; exact new_cell _ _ _ 2
  have c3 : B0.cell? ⟨w0.heap.size, 3, none⟩ = some (.string s) := by subst hB0; exact new_cell _ _ _ 3
  have HB0 := Lib.hid hB0
  clear hB0
  have tE : s.toList.isEmpty = emptyB s := rfl
  generalize emptyB s = bE at tE Hr
  obtain ⟨ba, hba⟩ : ∃ b, decide ((0 : Int) ≤ at_) = b := ⟨_, rfl⟩
  rw [hba] at Hr
  obtain ⟨q0, hq0⟩ : ∃ b, (n == 0) = b := ⟨_, rfl⟩
  rw [hq0] at Hr
  clear _hs _hn2
  cases q0
  · cases bE
    · go_enter Tryd.func62, Tryd.ntmps62
      go_wp2_with fail
      rw [← HB0.out]
      refine wp_region_rv 8 GQ (kindV []) (by kernel_rfl) (by kernel_rfl) GQ.trans GQ.refl (GQ.start _) (kindV_mono _) ?_
      simp only [List.take_succ_cons, List.take_zero, List.drop_succ_cons, List.drop_zero]
      iterate 8 (refine rv_det (by kernel_rfl) rfl (by intro w hG hH; obtain ⟨n, rfl⟩ := hG; go_simp; first | done | with_reducible rfl) ?_; simp only [Act.put, List.setIfInBounds_toArray, List.set_cons_zero, List.set_cons_succ])
      refine rv_nil (fun w hG hH => ?_)
      obtain ⟨n, rfl⟩ := hG
      clear hH
      go_wp2_with fail
      go_ret
      exact ⟨ret_eq (by rw [Hr.out]; rfl), K.drewN _⟩
    · cases ba
      · go_enter Tryd.func62, Tryd.ntmps62
        go_wp2_with fail
        rw [← HB0.out]
        refine wp_region_rv 8 GQ (kindV []) (by kernel_rfl) (by kernel_rfl) GQ.trans GQ.refl (GQ.start _) (kindV_mono _) ?_
        simp only [List.take_succ_cons, List.take_zero, List.drop_succ_cons, List.drop_zero]
        iterate 8 (refine rv_det (by kernel_rfl) rfl (by intro w hG hH; obtain ⟨n, rfl⟩ := hG; go_simp; first | done | with_reducible rfl) ?_; simp only [Act.put, List.setIfInBounds_toArray, List.set_cons_zero, List.set_cons_succ])
        refine rv_nil (fun w hG hH => ?_)
        obtain ⟨n, rfl⟩ := hG
        clear hH
        go_wp2_with fail
        go_ret
        exact ⟨ret_eq (by rw [Hr.out]; rfl), K.drewN _⟩
      · go_enter Tryd.func62, Tryd.ntmps62
        go_wp2_with fail
        rw [← HB0.out]
        refine wp_region_rv 8 GQ (kindV []) (by kernel_rfl) (by kernel_rfl) GQ.trans GQ.refl (GQ.start _) (kindV_mono _) ?_
        simp only [List.take_succ_cons, List.take_zero, List.drop_succ_cons, List.drop_zero]
        iterate 8 (refine rv_det (by kernel_rfl) rfl (by intro w hG hH; obtain ⟨n, rfl⟩ := hG; go_simp; first | done | with_reducible rfl) ?_; simp only [Act.put, List.setIfInBounds_toArray, List.set_cons_zero, List.set_cons_succ])
        refine rv_nil (fun w hG hH => ?_)
        obtain ⟨n, rfl⟩ := hG
        clear hH
        go_wp2_with fail
        go_ret
        exact ⟨ret_eq (by rw [Hr.out]; rfl), K.drewN _⟩
  · cases bE
    · go_enter Tryd.func62, Tryd.ntmps62
      go_wp2_with fail
      rw [← HB0.out]
      refine wp_region_rv 8 GQ (kindV []) (by kernel_rfl) (by kernel_rfl) GQ.trans GQ.refl (GQ.start _) (kindV_mono _) ?_
      simp only [List.take_succ_cons, List.take_zero, List.drop_succ_cons, List.drop_zero]
      iterate 8 (refine rv_det (by kernel_rfl) rfl (by intro w hG hH; obtain ⟨n, rfl⟩ := hG; go_simp; first | done | with_reducible rfl) ?_; simp only [Act.put, List.setIfInBounds_toArray, List.set_cons_zero, List.set_cons_succ])
      refine rv_nil (fun w hG hH => ?_)
      obtain ⟨n, rfl⟩ := hG
      clear hH
      go_wp2_with fail
      go_ret
      exact ⟨ret_eq (by rw [Hr.out]; rfl), K.drewN _⟩
    · cases ba
      · go_enter Tryd.func62, Tryd.ntmps62
        go_wp2_with fail
        rw [← HB0.out]
        refine wp_region_rv 8 GQ (kindV []) (by kernel_rfl) (by kernel_rfl) GQ.trans GQ.refl (GQ.start _) (kindV_mono _) ?_
        simp only [List.take_succ_cons, List.take_zero, List.drop_succ_cons, List.drop_zero]
        iterate 8 (refine rv_det (by kernel_rfl) rfl (by intro w hG hH; obtain ⟨n, rfl⟩ := hG; go_simp; first | done | with_reducible rfl) ?_; simp only [Act.put, List.setIfInBounds_toArray, List.set_cons_zero, List.set_cons_succ])
        refine rv_nil (fun w hG hH => ?_)
        obtain ⟨n, rfl⟩ := hG
        clear hH
        go_wp2_with fail
        go_ret
        exact ⟨ret_eq (by rw [Hr.out]; rfl), K.drewN _⟩
      · go_enter Tryd.func62, Tryd.ntmps62
        go_wp2_with fail
        rw [← HB0.out]
        refine wp_region_rv 8 GQ (kindV []) (by kernel_rfl) (by kernel_rfl) GQ.trans GQ.refl (GQ.start _) (kindV_mono _) ?_
        simp only [List.take_succ_cons, List.take_zero, List.drop_succ_cons, List.drop_zero]
        iterate 8 (refine rv_det (by kernel_rfl) rfl (by intro w hG hH; obtain ⟨n, rfl⟩ := hG; go_simp; first | done | with_reducible rfl) ?_; simp only [Act.put, List.setIfInBounds_toArray, List.set_cons_zero, List.set_cons_succ])
        refine rv_nil (fun w hG hH => ?_)
        obtain ⟨n, rfl⟩ := hG
        clear hH
        go_wp2_with fail
        go_ret
        exact ⟨ret_eq (by rw [Hr.out]; rfl), K.drewN _⟩

set_option maxRecDepth 100000 in
set_option maxHeartbeats 4000000 in
theorem fields_22 (at_ n : Int) (s : ByteArray) (la : Option Addr) (ll lc : Nat) (w : World) (_hs : s.size ≤ 9223372036854775807) (_hn2 : n ≤ 9223372036854775807) :
    Calls Tryd.prog 62 #[.agg #[.int .u8 22, .int .i64 at_, .int .i64 n, .string s, .slice la ll lc]] w fun e w' => e = .returned (.bool (fieldsB 22 at_ n s)) ∧ KB F0 w w' := by
  obtain ⟨w0, rfl⟩ : ∃ w0, w0 = w := ⟨_, rfl⟩
  have Hr : Hid (fieldsB 22 at_ n s = (emptyB s && (n == 0) && decide (0 ≤ at_) && true && true)) := Lib.hid (by
    show (emptyB s && (decide ((0 : Int) ≤ n) && decide (n ≤ (0 : Int))) && decide (0 ≤ at_) && true && true) = _
    rw [eq00])
  obtain ⟨B0, hB0⟩ : ∃ B0, B0 = (w0.alloc (.cells #[.int .u8 22, .int .i64 at_, .int .i64 n, .string s, .slice la ll lc] 25)) := ⟨_, rfl⟩
  have K : KB F0 w0 B0 := by subst hB0; exact (KB.refl _ _).alloc _
  have c0 : B0.cell? ⟨w0.heap.size, 0, none⟩ = some (.int .u8 22) := by subst hB0; exact new_cell _ _ _ 0
  have c1 : B0.cell? ⟨w0.heap.size, 1, none⟩ = some (.int .i64 at_) := by subst hB0; exact new_cell _ _ _ 1
  have c2 : B0.cell? ⟨w0.heap.size, 2, none⟩ = some (.int .i64 n) := by subst hB0; exact new_cell _ _ _ 2
  have c3 : B0.cell? ⟨w0.heap.size, 3, none⟩ = some (.string s) := by subst hB0; exact new_cell _ _ _ 3
  have HB0 := Lib.hid hB0
  clear hB0
  have tE : s.toList.isEmpty = emptyB s := rfl
  generalize emptyB s = bE at tE Hr
  obtain ⟨ba, hba⟩ : ∃ b, decide ((0 : Int) ≤ at_) = b := ⟨_, rfl⟩
  rw [hba] at Hr
  obtain ⟨q0, hq0⟩ : ∃ b, (n == 0) = b := ⟨_, rfl⟩
  rw [hq0] at Hr
  clear _hs _hn2
  cases q0
  · cases bE
    · go_enter Tryd.func62, Tryd.ntmps62
      go_wp2_with fail
      rw [← HB0.out]
      refine wp_region_rv 8 GQ (kindV []) (by kernel_rfl) (by kernel_rfl) GQ.trans GQ.refl (GQ.start _) (kindV_mono _) ?_
      simp only [List.take_succ_cons, List.take_zero, List.drop_succ_cons, List.drop_zero]
      iterate 8 (refine rv_det (by kernel_rfl) rfl (by intro w hG hH; obtain ⟨n, rfl⟩ := hG; go_simp; first | done | with_reducible rfl) ?_; simp only [Act.put, List.setIfInBounds_toArray, List.set_cons_zero, List.set_cons_succ])
      refine rv_nil (fun w hG hH => ?_)
      obtain ⟨n, rfl⟩ := hG
      clear hH
      go_wp2_with fail
      go_ret
      exact ⟨ret_eq (by rw [Hr.out]; rfl), K.drewN _⟩
    · cases ba
      · go_enter Tryd.func62, Tryd.ntmps62
        go_wp2_with fail
        rw [← HB0.out]
        refine wp_region_rv 8 GQ (kindV []) (by kernel_rfl) (by kernel_rfl) GQ.trans GQ.refl (GQ.start _) (kindV_mono _) ?_
        simp only [List.take_succ_cons, List.take_zero, List.drop_succ_cons, List.drop_zero]
        iterate 8 (refine rv_det (by kernel_rfl) rfl (by intro w hG hH; obtain ⟨n, rfl⟩ := hG; go_simp; first | done | with_reducible rfl) ?_; simp only [Act.put, List.setIfInBounds_toArray, List.set_cons_zero, List.set_cons_succ])
        refine rv_nil (fun w hG hH => ?_)
        obtain ⟨n, rfl⟩ := hG
        clear hH
        go_wp2_with fail
        go_ret
        exact ⟨ret_eq (by rw [Hr.out]; rfl), K.drewN _⟩
      · go_enter Tryd.func62, Tryd.ntmps62
        go_wp2_with fail
        rw [← HB0.out]
        refine wp_region_rv 8 GQ (kindV []) (by kernel_rfl) (by kernel_rfl) GQ.trans GQ.refl (GQ.start _) (kindV_mono _) ?_
        simp only [List.take_succ_cons, List.take_zero, List.drop_succ_cons, List.drop_zero]
        iterate 8 (refine rv_det (by kernel_rfl) rfl (by intro w hG hH; obtain ⟨n, rfl⟩ := hG; go_simp; first | done | with_reducible rfl) ?_; simp only [Act.put, List.setIfInBounds_toArray, List.set_cons_zero, List.set_cons_succ])
        refine rv_nil (fun w hG hH => ?_)
        obtain ⟨n, rfl⟩ := hG
        clear hH
        go_wp2_with fail
        go_ret
        exact ⟨ret_eq (by rw [Hr.out]; rfl), K.drewN _⟩
  · cases bE
    · go_enter Tryd.func62, Tryd.ntmps62
      go_wp2_with fail
      rw [← HB0.out]
      refine wp_region_rv 8 GQ (kindV []) (by kernel_rfl) (by kernel_rfl) GQ.trans GQ.refl (GQ.start _) (kindV_mono _) ?_
      simp only [List.take_succ_cons, List.take_zero, List.drop_succ_cons, List.drop_zero]
      iterate 8 (refine rv_det (by kernel_rfl) rfl (by intro w hG hH; obtain ⟨n, rfl⟩ := hG; go_simp; first | done | with_reducible rfl) ?_; simp only [Act.put, List.setIfInBounds_toArray, List.set_cons_zero, List.set_cons_succ])
      refine rv_nil (fun w hG hH => ?_)
      obtain ⟨n, rfl⟩ := hG
      clear hH
      go_wp2_with fail
      go_ret
      exact ⟨ret_eq (by rw [Hr.out]; rfl), K.drewN _⟩
    · cases ba
      · go_enter Tryd.func62, Tryd.ntmps62
        go_wp2_with fail
        rw [← HB0.out]
        refine wp_region_rv 8 GQ (kindV []) (by kernel_rfl) (by kernel_rfl) GQ.trans GQ.refl (GQ.start _) (kindV_mono _) ?_
        simp only [List.take_succ_cons, List.take_zero, List.drop_succ_cons, List.drop_zero]
        iterate 8 (refine rv_det (by kernel_rfl) rfl (by intro w hG hH; obtain ⟨n, rfl⟩ := hG; go_simp; first | done | with_reducible rfl) ?_; simp only [Act.put, List.setIfInBounds_toArray, List.set_cons_zero, List.set_cons_succ])
        refine rv_nil (fun w hG hH => ?_)
        obtain ⟨n, rfl⟩ := hG
        clear hH
        go_wp2_with fail
        go_ret
        exact ⟨ret_eq (by rw [Hr.out]; rfl), K.drewN _⟩
      · go_enter Tryd.func62, Tryd.ntmps62
        go_wp2_with fail
        rw [← HB0.out]
        refine wp_region_rv 8 GQ (kindV []) (by kernel_rfl) (by kernel_rfl) GQ.trans GQ.refl (GQ.start _) (kindV_mono _) ?_
        simp only [List.take_succ_cons, List.take_zero, List.drop_succ_cons, List.drop_zero]
        iterate 8 (refine rv_det (by kernel_rfl) rfl (by intro w hG hH; obtain ⟨n, rfl⟩ := hG; go_simp; first | done | with_reducible rfl) ?_; simp only [Act.put, List.setIfInBounds_toArray, List.set_cons_zero, List.set_cons_succ])
        refine rv_nil (fun w hG hH => ?_)
        obtain ⟨n, rfl⟩ := hG
        clear hH
        go_wp2_with fail
        go_ret
        exact ⟨ret_eq (by rw [Hr.out]; rfl), K.drewN _⟩

set_option maxRecDepth 100000 in
set_option maxHeartbeats 4000000 in
theorem fields_23 (at_ n : Int) (s : ByteArray) (la : Option Addr) (ll lc : Nat) (w : World) (_hs : s.size ≤ 9223372036854775807) (_hn2 : n ≤ 9223372036854775807) :
    Calls Tryd.prog 62 #[.agg #[.int .u8 23, .int .i64 at_, .int .i64 n, .string s, .slice la ll lc]] w fun e w' => e = .returned (.bool (fieldsB 23 at_ n s)) ∧ KB F0 w w' := by
  obtain ⟨w0, rfl⟩ : ∃ w0, w0 = w := ⟨_, rfl⟩
  have Hr : Hid (fieldsB 23 at_ n s = (emptyB s && (n == 0) && decide (0 ≤ at_) && true && true)) := Lib.hid (by
    show (emptyB s && (decide ((0 : Int) ≤ n) && decide (n ≤ (0 : Int))) && decide (0 ≤ at_) && true && true) = _
    rw [eq00])
  obtain ⟨B0, hB0⟩ : ∃ B0, B0 = (w0.alloc (.cells #[.int .u8 23, .int .i64 at_, .int .i64 n, .string s, .slice la ll lc] 25)) := ⟨_, rfl⟩
  have K : KB F0 w0 B0 := by subst hB0; exact (KB.refl _ _).alloc _
  have c0 : B0.cell? ⟨w0.heap.size, 0, none⟩ = some (.int .u8 23) := by subst hB0; exact new_cell _ _ _ 0
  have c1 : B0.cell? ⟨w0.heap.size, 1, none⟩ = some (.int .i64 at_) := by subst hB0; exact new_cell _ _ _ 1
  have c2 : B0.cell? ⟨w0.heap.size, 2, none⟩ = some (.int .i64 n) := by subst hB0; exact new_cell _ _ _ 2
  have c3 : B0.cell? ⟨w0.heap.size, 3, none⟩ = some (.string s) := by subst hB0; exact new_cell _ _ _ 3
  have HB0 := Lib.hid hB0
  clear hB0
  have tE : s.toList.isEmpty = emptyB s := rfl
  generalize emptyB s = bE at tE Hr
  obtain ⟨ba, hba⟩ : ∃ b, decide ((0 : Int) ≤ at_) = b := ⟨_, rfl⟩
  rw [hba] at Hr
  obtain ⟨q0, hq0⟩ : ∃ b, (n == 0) = b := ⟨_, rfl⟩
  rw [hq0] at Hr
  clear _hs _hn2
  cases q0
  · cases bE
    · go_enter Tryd.func62, Tryd.ntmps62
      go_wp2_with fail
      rw [← HB0.out]
      refine wp_region_rv 8 GQ (kindV []) (by kernel_rfl) (by kernel_rfl) GQ.trans GQ.refl (GQ.start _) (kindV_mono _) ?_
      simp only [List.take_succ_cons, List.take_zero, List.drop_succ_cons, List.drop_zero]
      iterate 8 (refine rv_det (by kernel_rfl) rfl (by intro w hG hH; obtain ⟨n, rfl⟩ := hG; go_simp; first | done | with_reducible rfl) ?_; simp only [Act.put, List.setIfInBounds_toArray, List.set_cons_zero, List.set_cons_succ])
      refine rv_nil (fun w hG hH => ?_)
      obtain ⟨n, rfl⟩ := hG
      clear hH
      go_wp2_with fail
      go_ret
      exact ⟨ret_eq (by rw [Hr.out]; rfl), K.drewN _⟩
    · cases ba
      · go_enter Tryd.func62, Tryd.ntmps62
        go_wp2_with fail
        rw [← HB0.out]
        refine wp_region_rv 8 GQ (kindV []) (by kernel_rfl) (by kernel_rfl) GQ.trans GQ.refl (GQ.start _) (kindV_mono _) ?_
        simp only [List.take_succ_cons, List.take_zero, List.drop_succ_cons, List.drop_zero]
        iterate 8 (refine rv_det (by kernel_rfl) rfl (by intro w hG hH; obtain ⟨n, rfl⟩ := hG; go_simp; first | done | with_reducible rfl) ?_; simp only [Act.put, List.setIfInBounds_toArray, List.set_cons_zero, List.set_cons_succ])
        refine rv_nil (fun w hG hH => ?_)
        obtain ⟨n, rfl⟩ := hG
        clear hH
        go_wp2_with fail
        go_ret
        exact ⟨ret_eq (by rw [Hr.out]; rfl), K.drewN _⟩
      · go_enter Tryd.func62, Tryd.ntmps62
        go_wp2_with fail
        rw [← HB0.out]
        refine wp_region_rv 8 GQ (kindV []) (by kernel_rfl) (by kernel_rfl) GQ.trans GQ.refl (GQ.start _) (kindV_mono _) ?_
        simp only [List.take_succ_cons, List.take_zero, List.drop_succ_cons, List.drop_zero]
        iterate 8 (refine rv_det (by kernel_rfl) rfl (by intro w hG hH; obtain ⟨n, rfl⟩ := hG; go_simp; first | done | with_reducible rfl) ?_; simp only [Act.put, List.setIfInBounds_toArray, List.set_cons_zero, List.set_cons_succ])
        refine rv_nil (fun w hG hH => ?_)
        obtain ⟨n, rfl⟩ := hG
        clear hH
        go_wp2_with fail
        go_ret
        exact ⟨ret_eq (by rw [Hr.out]; rfl), K.drewN _⟩
  · cases bE
    · go_enter Tryd.func62, Tryd.ntmps62
      go_wp2_with fail
      rw [← HB0.out]
      refine wp_region_rv 8 GQ (kindV []) (by kernel_rfl) (by kernel_rfl) GQ.trans GQ.refl (GQ.start _) (kindV_mono _) ?_
      simp only [List.take_succ_cons, List.take_zero, List.drop_succ_cons, List.drop_zero]
      iterate 8 (refine rv_det (by kernel_rfl) rfl (by intro w hG hH; obtain ⟨n, rfl⟩ := hG; go_simp; first | done | with_reducible rfl) ?_; simp only [Act.put, List.setIfInBounds_toArray, List.set_cons_zero, List.set_cons_succ])
      refine rv_nil (fun w hG hH => ?_)
      obtain ⟨n, rfl⟩ := hG
      clear hH
      go_wp2_with fail
      go_ret
      exact ⟨ret_eq (by rw [Hr.out]; rfl), K.drewN _⟩
    · cases ba
      · go_enter Tryd.func62, Tryd.ntmps62
        go_wp2_with fail
        rw [← HB0.out]
        refine wp_region_rv 8 GQ (kindV []) (by kernel_rfl) (by kernel_rfl) GQ.trans GQ.refl (GQ.start _) (kindV_mono _) ?_
        simp only [List.take_succ_cons, List.take_zero, List.drop_succ_cons, List.drop_zero]
        iterate 8 (refine rv_det (by kernel_rfl) rfl (by intro w hG hH; obtain ⟨n, rfl⟩ := hG; go_simp; first | done | with_reducible rfl) ?_; simp only [Act.put, List.setIfInBounds_toArray, List.set_cons_zero, List.set_cons_succ])
        refine rv_nil (fun w hG hH => ?_)
        obtain ⟨n, rfl⟩ := hG
        clear hH
        go_wp2_with fail
        go_ret
        exact ⟨ret_eq (by rw [Hr.out]; rfl), K.drewN _⟩
      · go_enter Tryd.func62, Tryd.ntmps62
        go_wp2_with fail
        rw [← HB0.out]
        refine wp_region_rv 8 GQ (kindV []) (by kernel_rfl) (by kernel_rfl) GQ.trans GQ.refl (GQ.start _) (kindV_mono _) ?_
        simp only [List.take_succ_cons, List.take_zero, List.drop_succ_cons, List.drop_zero]
        iterate 8 (refine rv_det (by kernel_rfl) rfl (by intro w hG hH; obtain ⟨n, rfl⟩ := hG; go_simp; first | done | with_reducible rfl) ?_; simp only [Act.put, List.setIfInBounds_toArray, List.set_cons_zero, List.set_cons_succ])
        refine rv_nil (fun w hG hH => ?_)
        obtain ⟨n, rfl⟩ := hG
        clear hH
        go_wp2_with fail
        go_ret
        exact ⟨ret_eq (by rw [Hr.out]; rfl), K.drewN _⟩

set_option maxRecDepth 100000 in
set_option maxHeartbeats 4000000 in
theorem fields_26 (at_ n : Int) (s : ByteArray) (la : Option Addr) (ll lc : Nat) (w : World) (hs : s.size ≤ 9223372036854775807) (_hn2 : n ≤ 9223372036854775807) :
    Calls Tryd.prog 62 #[.agg #[.int .u8 26, .int .i64 at_, .int .i64 n, .string s, .slice la ll lc]] w fun e w' => e = .returned (.bool (fieldsB 26 at_ n s)) ∧ KB F0 w w' := by
  obtain ⟨w0, rfl⟩ : ∃ w0, w0 = w := ⟨_, rfl⟩
  have Hr : Hid (fieldsB 26 at_ n s = (nameB s && (n == 0) && decide (0 ≤ at_) && true && true)) := Lib.hid (by
    show (nameB s && (decide ((0 : Int) ≤ n) && decide (n ≤ (0 : Int))) && decide (0 ≤ at_) && true && true) = _
    rw [eq00])
  obtain ⟨B0, hB0⟩ : ∃ B0, B0 = (w0.alloc (.cells #[.int .u8 26, .int .i64 at_, .int .i64 n, .string s, .slice la ll lc] 25)) := ⟨_, rfl⟩
  have K : KB F0 w0 B0 := by subst hB0; exact (KB.refl _ _).alloc _
  have c0 : B0.cell? ⟨w0.heap.size, 0, none⟩ = some (.int .u8 26) := by subst hB0; exact new_cell _ _ _ 0
  have c1 : B0.cell? ⟨w0.heap.size, 1, none⟩ = some (.int .i64 at_) := by subst hB0; exact new_cell _ _ _ 1
  have c2 : B0.cell? ⟨w0.heap.size, 2, none⟩ = some (.int .i64 n) := by subst hB0; exact new_cell _ _ _ 2
  have c3 : B0.cell? ⟨w0.heap.size, 3, none⟩ = some (.string s) := by subst hB0; exact new_cell _ _ _ 3
  have HB0 := Lib.hid hB0
  clear hB0
  have HS := Lib.hid (fun W => cname_any s W hs)
  generalize nameB s = bN at HS Hr
  obtain ⟨ba, hba⟩ : ∃ b, decide ((0 : Int) ≤ at_) = b := ⟨_, rfl⟩
  rw [hba] at Hr
  obtain ⟨q0, hq0⟩ : ∃ b, (n == 0) = b := ⟨_, rfl⟩
  rw [hq0] at Hr
  clear hs _hn2
  cases q0
  · cases bN
    · go_enter Tryd.func62, Tryd.ntmps62
      go_wp2_with fail
      rw [← HB0.out]
      refine wp_region_rv 8 GQ (kindV []) (by kernel_rfl) (by kernel_rfl) GQ.trans GQ.refl (GQ.start _) (kindV_mono _) ?_
      simp only [List.take_succ_cons, List.take_zero, List.drop_succ_cons, List.drop_zero]
      iterate 8 (refine rv_det (by kernel_rfl) rfl (by intro w hG hH; obtain ⟨n, rfl⟩ := hG; go_simp; first | done | with_reducible rfl) ?_; simp only [Act.put, List.setIfInBounds_toArray, List.set_cons_zero, List.set_cons_succ])
      refine rv_nil (fun w hG hH => ?_)
      obtain ⟨n, rfl⟩ := hG
      clear hH
      go_wp2_with fail
      refine (HS.out _).mono ?_
      rintro e _ ⟨rfl, rfl⟩
      go_wp2_with fail
      go_ret
      exact ⟨ret_eq (by rw [Hr.out]; rfl), K.drewN _⟩
    · cases ba
      · go_enter Tryd.func62, Tryd.ntmps62
        go_wp2_with fail
        rw [← HB0.out]
        refine wp_region_rv 8 GQ (kindV []) (by kernel_rfl) (by kernel_rfl) GQ.trans GQ.refl (GQ.start _) (kindV_mono _) ?_
        simp only [List.take_succ_cons, List.take_zero, List.drop_succ_cons, List.drop_zero]
        iterate 8 (refine rv_det (by kernel_rfl) rfl (by intro w hG hH; obtain ⟨n, rfl⟩ := hG; go_simp; first | done | with_reducible rfl) ?_; simp only [Act.put, List.setIfInBounds_toArray, List.set_cons_zero, List.set_cons_succ])
        refine rv_nil (fun w hG hH => ?_)
        obtain ⟨n, rfl⟩ := hG
        clear hH
        go_wp2_with fail
        refine (HS.out _).mono ?_
        rintro e _ ⟨rfl, rfl⟩
        go_wp2_with fail
        go_ret
        exact ⟨ret_eq (by rw [Hr.out]; rfl), K.drewN _⟩
      · go_enter Tryd.func62, Tryd.ntmps62
        go_wp2_with fail
        rw [← HB0.out]
        refine wp_region_rv 8 GQ (kindV []) (by kernel_rfl) (by kernel_rfl) GQ.trans GQ.refl (GQ.start _) (kindV_mono _) ?_
        simp only [List.take_succ_cons, List.take_zero, List.drop_succ_cons, List.drop_zero]
        iterate 8 (refine rv_det (by kernel_rfl) rfl (by intro w hG hH; obtain ⟨n, rfl⟩ := hG; go_simp; first | done | with_reducible rfl) ?_; simp only [Act.put, List.setIfInBounds_toArray, List.set_cons_zero, List.set_cons_succ])
        refine rv_nil (fun w hG hH => ?_)
        obtain ⟨n, rfl⟩ := hG
        clear hH
        go_wp2_with fail
        refine (HS.out _).mono ?_
        rintro e _ ⟨rfl, rfl⟩
        go_wp2_with fail
        go_ret
        exact ⟨ret_eq (by rw [Hr.out]; rfl), K.drewN _⟩
  · cases bN
    · go_enter Tryd.func62, Tryd.ntmps62
      go_wp2_with fail
      rw [← HB0.out]
      refine wp_region_rv 8 GQ (kindV []) (by kernel_rfl) (by kernel_rfl) GQ.trans GQ.refl (GQ.start _) (kindV_mono _) ?_
      simp only [List.take_succ_cons, List.take_zero, List.drop_succ_cons, List.drop_zero]
      iterate 8 (refine rv_det (by kernel_rfl) rfl (by intro w hG hH; obtain ⟨n, rfl⟩ := hG; go_simp; first | done | with_reducible rfl) ?_; simp only [Act.put, List.setIfInBounds_toArray, List.set_cons_zero, List.set_cons_succ])
      refine rv_nil (fun w hG hH => ?_)
      obtain ⟨n, rfl⟩ := hG
      clear hH
      go_wp2_with fail
      refine (HS.out _).mono ?_
      rintro e _ ⟨rfl, rfl⟩
      go_wp2_with fail
      go_ret
      exact ⟨ret_eq (by rw [Hr.out]; rfl), K.drewN _⟩
    · cases ba
      · go_enter Tryd.func62, Tryd.ntmps62
        go_wp2_with fail
        rw [← HB0.out]
        refine wp_region_rv 8 GQ (kindV []) (by kernel_rfl) (by kernel_rfl) GQ.trans GQ.refl (GQ.start _) (kindV_mono _) ?_
        simp only [List.take_succ_cons, List.take_zero, List.drop_succ_cons, List.drop_zero]
        iterate 8 (refine rv_det (by kernel_rfl) rfl (by intro w hG hH; obtain ⟨n, rfl⟩ := hG; go_simp; first | done | with_reducible rfl) ?_; simp only [Act.put, List.setIfInBounds_toArray, List.set_cons_zero, List.set_cons_succ])
        refine rv_nil (fun w hG hH => ?_)
        obtain ⟨n, rfl⟩ := hG
        clear hH
        go_wp2_with fail
        refine (HS.out _).mono ?_
        rintro e _ ⟨rfl, rfl⟩
        go_wp2_with fail
        go_ret
        exact ⟨ret_eq (by rw [Hr.out]; rfl), K.drewN _⟩
      · go_enter Tryd.func62, Tryd.ntmps62
        go_wp2_with fail
        rw [← HB0.out]
        refine wp_region_rv 8 GQ (kindV []) (by kernel_rfl) (by kernel_rfl) GQ.trans GQ.refl (GQ.start _) (kindV_mono _) ?_
        simp only [List.take_succ_cons, List.take_zero, List.drop_succ_cons, List.drop_zero]
        iterate 8 (refine rv_det (by kernel_rfl) rfl (by intro w hG hH; obtain ⟨n, rfl⟩ := hG; go_simp; first | done | with_reducible rfl) ?_; simp only [Act.put, List.setIfInBounds_toArray, List.set_cons_zero, List.set_cons_succ])
        refine rv_nil (fun w hG hH => ?_)
        obtain ⟨n, rfl⟩ := hG
        clear hH
        go_wp2_with fail
        refine (HS.out _).mono ?_
        rintro e _ ⟨rfl, rfl⟩
        go_wp2_with fail
        go_ret
        exact ⟨ret_eq (by rw [Hr.out]; rfl), K.drewN _⟩

set_option maxRecDepth 100000 in
set_option maxHeartbeats 4000000 in
theorem fields_27 (at_ n : Int) (s : ByteArray) (la : Option Addr) (ll lc : Nat) (w : World) (hs : s.size ≤ 9223372036854775807) (_hn2 : n ≤ 9223372036854775807) :
    Calls Tryd.prog 62 #[.agg #[.int .u8 27, .int .i64 at_, .int .i64 n, .string s, .slice la ll lc]] w fun e w' => e = .returned (.bool (fieldsB 27 at_ n s)) ∧ KB F0 w w' := by
  obtain ⟨w0, rfl⟩ : ∃ w0, w0 = w := ⟨_, rfl⟩
  have Hr : Hid (fieldsB 27 at_ n s = (nameB s && (n == 0) && decide (0 ≤ at_) && true && true)) := Lib.hid (by
    show (nameB s && (decide ((0 : Int) ≤ n) && decide (n ≤ (0 : Int))) && decide (0 ≤ at_) && true && true) = _
    rw [eq00])
  obtain ⟨B0, hB0⟩ : ∃ B0, B0 = (w0.alloc (.cells #[.int .u8 27, .int .i64 at_, .int .i64 n, .string s, .slice la ll lc] 25)) := ⟨_, rfl⟩
  have K : KB F0 w0 B0 := by subst hB0; exact (KB.refl _ _).alloc _
  have c0 : B0.cell? ⟨w0.heap.size, 0, none⟩ = some (.int .u8 27) := by subst hB0; exact new_cell _ _ _ 0
  have c1 : B0.cell? ⟨w0.heap.size, 1, none⟩ = some (.int .i64 at_) := by subst hB0; exact new_cell _ _ _ 1
  have c2 : B0.cell? ⟨w0.heap.size, 2, none⟩ = some (.int .i64 n) := by subst hB0; exact new_cell _ _ _ 2
  have c3 : B0.cell? ⟨w0.heap.size, 3, none⟩ = some (.string s) := by subst hB0; exact new_cell _ _ _ 3
  have HB0 := Lib.hid hB0
  clear hB0
  have HS := Lib.hid (fun W => cname_any s W hs)
  generalize nameB s = bN at HS Hr
  obtain ⟨ba, hba⟩ : ∃ b, decide ((0 : Int) ≤ at_) = b := ⟨_, rfl⟩
  rw [hba] at Hr
  obtain ⟨q0, hq0⟩ : ∃ b, (n == 0) = b := ⟨_, rfl⟩
  rw [hq0] at Hr
  clear hs _hn2
  cases q0
  · cases bN
    · go_enter Tryd.func62, Tryd.ntmps62
      go_wp2_with fail
      rw [← HB0.out]
      refine wp_region_rv 8 GQ (kindV []) (by kernel_rfl) (by kernel_rfl) GQ.trans GQ.refl (GQ.start _) (kindV_mono _) ?_
      simp only [List.take_succ_cons, List.take_zero, List.drop_succ_cons, List.drop_zero]
      iterate 8 (refine rv_det (by kernel_rfl) rfl (by intro w hG hH; obtain ⟨n, rfl⟩ := hG; go_simp; first | done | with_reducible rfl) ?_; simp only [Act.put, List.setIfInBounds_toArray, List.set_cons_zero, List.set_cons_succ])
      refine rv_nil (fun w hG hH => ?_)
      obtain ⟨n, rfl⟩ := hG
      clear hH
      go_wp2_with fail
      refine (HS.out _).mono ?_
      rintro e _ ⟨rfl, rfl⟩
      go_wp2_with fail
      go_ret
      exact ⟨ret_eq (by rw [Hr.out]; rfl), K.drewN _⟩
    · cases ba
      · go_enter Tryd.func62, Tryd.ntmps62
        go_wp2_with fail
        rw [← HB0.out]
        refine wp_region_rv 8 GQ (kindV []) (by kernel_rfl) (by kernel_rfl) GQ.trans GQ.refl (GQ.start _) (kindV_mono _) ?_
        simp only [List.take_succ_cons, List.take_zero, List.drop_succ_cons, List.drop_zero]
        iterate 8 (refine rv_det (by kernel_rfl) rfl (by intro w hG hH; obtain ⟨n, rfl⟩ := hG; go_simp; first | done | with_reducible rfl) ?_; simp only [Act.put, List.setIfInBounds_toArray, List.set_cons_zero, List.set_cons_succ])
        refine rv_nil (fun w hG hH => ?_)
        obtain ⟨n, rfl⟩ := hG
        clear hH
        go_wp2_with fail
        refine (HS.out _).mono ?_
        rintro e _ ⟨rfl, rfl⟩
        go_wp2_with fail
        go_ret
        exact ⟨ret_eq (by rw [Hr.out]; rfl), K.drewN _⟩
      · go_enter Tryd.func62, Tryd.ntmps62
        go_wp2_with fail
        rw [← HB0.out]
        refine wp_region_rv 8 GQ (kindV []) (by kernel_rfl) (by kernel_rfl) GQ.trans GQ.refl (GQ.start _) (kindV_mono _) ?_
        simp only [List.take_succ_cons, List.take_zero, List.drop_succ_cons, List.drop_zero]
        iterate 8 (refine rv_det (by kernel_rfl) rfl (by intro w hG hH; obtain ⟨n, rfl⟩ := hG; go_simp; first | done | with_reducible rfl) ?_; simp only [Act.put, List.setIfInBounds_toArray, List.set_cons_zero, List.set_cons_succ])
        refine rv_nil (fun w hG hH => ?_)
        obtain ⟨n, rfl⟩ := hG
        clear hH
        go_wp2_with fail
        refine (HS.out _).mono ?_
        rintro e _ ⟨rfl, rfl⟩
        go_wp2_with fail
        go_ret
        exact ⟨ret_eq (by rw [Hr.out]; rfl), K.drewN _⟩
  · cases bN
    · go_enter Tryd.func62, Tryd.ntmps62
      go_wp2_with fail
      rw [← HB0.out]
      refine wp_region_rv 8 GQ (kindV []) (by kernel_rfl) (by kernel_rfl) GQ.trans GQ.refl (GQ.start _) (kindV_mono _) ?_
      simp only [List.take_succ_cons, List.take_zero, List.drop_succ_cons, List.drop_zero]
      iterate 8 (refine rv_det (by kernel_rfl) rfl (by intro w hG hH; obtain ⟨n, rfl⟩ := hG; go_simp; first | done | with_reducible rfl) ?_; simp only [Act.put, List.setIfInBounds_toArray, List.set_cons_zero, List.set_cons_succ])
      refine rv_nil (fun w hG hH => ?_)
      obtain ⟨n, rfl⟩ := hG
      clear hH
      go_wp2_with fail
      refine (HS.out _).mono ?_
      rintro e _ ⟨rfl, rfl⟩
      go_wp2_with fail
      go_ret
      exact ⟨ret_eq (by rw [Hr.out]; rfl), K.drewN _⟩
    · cases ba
      · go_enter Tryd.func62, Tryd.ntmps62
        go_wp2_with fail
        rw [← HB0.out]
        refine wp_region_rv 8 GQ (kindV []) (by kernel_rfl) (by kernel_rfl) GQ.trans GQ.refl (GQ.start _) (kindV_mono _) ?_
        simp only [List.take_succ_cons, List.take_zero, List.drop_succ_cons, List.drop_zero]
        iterate 8 (refine rv_det (by kernel_rfl) rfl (by intro w hG hH; obtain ⟨n, rfl⟩ := hG; go_simp; first | done | with_reducible rfl) ?_; simp only [Act.put, List.setIfInBounds_toArray, List.set_cons_zero, List.set_cons_succ])
        refine rv_nil (fun w hG hH => ?_)
        obtain ⟨n, rfl⟩ := hG
        clear hH
        go_wp2_with fail
        refine (HS.out _).mono ?_
        rintro e _ ⟨rfl, rfl⟩
        go_wp2_with fail
        go_ret
        exact ⟨ret_eq (by rw [Hr.out]; rfl), K.drewN _⟩
      · go_enter Tryd.func62, Tryd.ntmps62
        go_wp2_with fail
        rw [← HB0.out]
        refine wp_region_rv 8 GQ (kindV []) (by kernel_rfl) (by kernel_rfl) GQ.trans GQ.refl (GQ.start _) (kindV_mono _) ?_
        simp only [List.take_succ_cons, List.take_zero, List.drop_succ_cons, List.drop_zero]
        iterate 8 (refine rv_det (by kernel_rfl) rfl (by intro w hG hH; obtain ⟨n, rfl⟩ := hG; go_simp; first | done | with_reducible rfl) ?_; simp only [Act.put, List.setIfInBounds_toArray, List.set_cons_zero, List.set_cons_succ])
        refine rv_nil (fun w hG hH => ?_)
        obtain ⟨n, rfl⟩ := hG
        clear hH
        go_wp2_with fail
        refine (HS.out _).mono ?_
        rintro e _ ⟨rfl, rfl⟩
        go_wp2_with fail
        go_ret
        exact ⟨ret_eq (by rw [Hr.out]; rfl), K.drewN _⟩

set_option maxRecDepth 100000 in
set_option maxHeartbeats 4000000 in
theorem fields_28 (at_ n : Int) (s : ByteArray) (la : Option Addr) (ll lc : Nat) (w : World) (_hs : s.size ≤ 9223372036854775807) (_hn2 : n ≤ 9223372036854775807) :
    Calls Tryd.prog 62 #[.agg #[.int .u8 28, .int .i64 at_, .int .i64 n, .string s, .slice la ll lc]] w fun e w' => e = .returned (.bool (fieldsB 28 at_ n s)) ∧ KB F0 w w' := by
  obtain ⟨w0, rfl⟩ : ∃ w0, w0 = w := ⟨_, rfl⟩
  have Hr : Hid (fieldsB 28 at_ n s = (emptyB s && (n == 0) && decide (0 ≤ at_) && true && true)) := Lib.hid (by
    show (emptyB s && (decide ((0 : Int) ≤ n) && decide (n ≤ (0 : Int))) && decide (0 ≤ at_) && true && true) = _
    rw [eq00])
  obtain ⟨B0, hB0⟩ : ∃ B0, B0 = (w0.alloc (.cells #[.int .u8 28, .int .i64 at_, .int .i64 n, .string s, .slice la ll lc] 25)) := ⟨_, rfl⟩
  have K : KB F0 w0 B0 := by subst hB0; exact (KB.refl _ _).alloc _
  have c0 : B0.cell? ⟨w0.heap.size, 0, none⟩ = some (.int .u8 28) := by subst hB0; exact new_cell _ _ _ 0
  have c1 : B0.cell? ⟨w0.heap.size, 1, none⟩ = some (.int .i64 at_) := by subst hB0; exact new_cell _ _ _ 1
  have c2 : B0.cell? ⟨w0.heap.size, 2, none⟩ = some (.int .i64 n) := by subst hB0; exact new_cell _ _ _ 2
  have c3 : B0.cell? ⟨w0.heap.size, 3, none⟩ = some (.string s) := by subst hB0; exact new_cell _ _ _ 3
  have HB0 := Lib.hid hB0
  clear hB0
  have tE : s.toList.isEmpty = emptyB s := rfl
  generalize emptyB s = bE at tE Hr
  obtain ⟨ba, hba⟩ : ∃ b, decide ((0 : Int) ≤ at_) = b := ⟨_, rfl⟩
  rw [hba] at Hr
  obtain ⟨q0, hq0⟩ : ∃ b, (n == 0) = b := ⟨_, rfl⟩
  rw [hq0] at Hr
  clear _hs _hn2
  cases q0
  · cases bE
    · go_enter Tryd.func62, Tryd.ntmps62
      go_wp2_with fail
      rw [← HB0.out]
      refine wp_region_rv 8 GQ (kindV []) (by kernel_rfl) (by kernel_rfl) GQ.trans GQ.refl (GQ.start _) (kindV_mono _) ?_
      simp only [List.take_succ_cons, List.take_zero, List.drop_succ_cons, List.drop_zero]
      iterate 8 (refine rv_det (by kernel_rfl) rfl (by intro w hG hH; obtain ⟨n, rfl⟩ := hG; go_simp; first | done | with_reducible rfl) ?_; simp only [Act.put, List.setIfInBounds_toArray, List.set_cons_zero, List.set_cons_succ])
      refine rv_nil (fun w hG hH => ?_)
      obtain ⟨n, rfl⟩ := hG
      clear hH
      go_wp2_with fail
      go_ret
      exact ⟨ret_eq (by rw [Hr.out]; rfl), K.drewN _⟩
    · cases ba
      · go_enter Tryd.func62, Tryd.ntmps62
        go_wp2_with fail
        rw [← HB0.out]
        refine wp_region_rv 8 GQ (kindV []) (by kernel_rfl) (by kernel_rfl) GQ.trans GQ.refl (GQ.start _) (kindV_mono _) ?_
        simp only [List.take_succ_cons, List.take_zero, List.drop_succ_cons, List.drop_zero]
        iterate 8 (refine rv_det (by kernel_rfl) rfl (by intro w hG hH; obtain ⟨n, rfl⟩ := hG; go_simp; first | done | with_reducible rfl) ?_; simp only [Act.put, List.setIfInBounds_toArray, List.set_cons_zero, List.set_cons_succ])
        refine rv_nil (fun w hG hH => ?_)
        obtain ⟨n, rfl⟩ := hG
        clear hH
        go_wp2_with fail
        go_ret
        exact ⟨ret_eq (by rw [Hr.out]; rfl), K.drewN _⟩
      · go_enter Tryd.func62, Tryd.ntmps62
        go_wp2_with fail
        rw [← HB0.out]
        refine wp_region_rv 8 GQ (kindV []) (by kernel_rfl) (by kernel_rfl) GQ.trans GQ.refl (GQ.start _) (kindV_mono _) ?_
        simp only [List.take_succ_cons, List.take_zero, List.drop_succ_cons, List.drop_zero]
        iterate 8 (refine rv_det (by kernel_rfl) rfl (by intro w hG hH; obtain ⟨n, rfl⟩ := hG; go_simp; first | done | with_reducible rfl) ?_; simp only [Act.put, List.setIfInBounds_toArray, List.set_cons_zero, List.set_cons_succ])
        refine rv_nil (fun w hG hH => ?_)
        obtain ⟨n, rfl⟩ := hG
        clear hH
        go_wp2_with fail
        go_ret
        exact ⟨ret_eq (by rw [Hr.out]; rfl), K.drewN _⟩
  · cases bE
    · go_enter Tryd.func62, Tryd.ntmps62
      go_wp2_with fail
      rw [← HB0.out]
      refine wp_region_rv 8 GQ (kindV []) (by kernel_rfl) (by kernel_rfl) GQ.trans GQ.refl (GQ.start _) (kindV_mono _) ?_
      simp only [List.take_succ_cons, List.take_zero, List.drop_succ_cons, List.drop_zero]
      iterate 8 (refine rv_det (by kernel_rfl) rfl (by intro w hG hH; obtain ⟨n, rfl⟩ := hG; go_simp; first | done | with_reducible rfl) ?_; simp only [Act.put, List.setIfInBounds_toArray, List.set_cons_zero, List.set_cons_succ])
      refine rv_nil (fun w hG hH => ?_)
      obtain ⟨n, rfl⟩ := hG
      clear hH
      go_wp2_with fail
      go_ret
      exact ⟨ret_eq (by rw [Hr.out]; rfl), K.drewN _⟩
    · cases ba
      · go_enter Tryd.func62, Tryd.ntmps62
        go_wp2_with fail
        rw [← HB0.out]
        refine wp_region_rv 8 GQ (kindV []) (by kernel_rfl) (by kernel_rfl) GQ.trans GQ.refl (GQ.start _) (kindV_mono _) ?_
        simp only [List.take_succ_cons, List.take_zero, List.drop_succ_cons, List.drop_zero]
        iterate 8 (refine rv_det (by kernel_rfl) rfl (by intro w hG hH; obtain ⟨n, rfl⟩ := hG; go_simp; first | done | with_reducible rfl) ?_; simp only [Act.put, List.setIfInBounds_toArray, List.set_cons_zero, List.set_cons_succ])
        refine rv_nil (fun w hG hH => ?_)
        obtain ⟨n, rfl⟩ := hG
        clear hH
        go_wp2_with fail
        go_ret
        exact ⟨ret_eq (by rw [Hr.out]; rfl), K.drewN _⟩
      · go_enter Tryd.func62, Tryd.ntmps62
        go_wp2_with fail
        rw [← HB0.out]
        refine wp_region_rv 8 GQ (kindV []) (by kernel_rfl) (by kernel_rfl) GQ.trans GQ.refl (GQ.start _) (kindV_mono _) ?_
        simp only [List.take_succ_cons, List.take_zero, List.drop_succ_cons, List.drop_zero]
        iterate 8 (refine rv_det (by kernel_rfl) rfl (by intro w hG hH; obtain ⟨n, rfl⟩ := hG; go_simp; first | done | with_reducible rfl) ?_; simp only [Act.put, List.setIfInBounds_toArray, List.set_cons_zero, List.set_cons_succ])
        refine rv_nil (fun w hG hH => ?_)
        obtain ⟨n, rfl⟩ := hG
        clear hH
        go_wp2_with fail
        go_ret
        exact ⟨ret_eq (by rw [Hr.out]; rfl), K.drewN _⟩

end Go.Proofs.YtjefoojkgocinaaDoor

/- The lexer; its 'is'. -/
import Derived.Test.YtcbifoimfhfccaaGreatDoorLexB
import Derived.Test.YtcbifoimfhfccaaGreatDoorBlk
namespace Go.Proofs.YtcbifoimfhfccaaGreatDoor
open Go.RowKit

/-- A lexer lies in block b. -/
def LX (w : World) (b : Nat) (s : ByteArray) (i : Nat) (st : Bool) : Prop := w.heap[b]? = some (.cells #[.string s, .int .i64 i, .bool st] 58 (0, 0))
def isB (P : Nat → Bool) (s : ByteArray) (i : Nat) : Bool := decide (i < s.size) && P (byteAt s i)

set_option maxRecDepth 100000 in
set_option maxHeartbeats 2000000 in
theorem is_lxRow (b : Nat) (s : ByteArray) (i : Nat) (st : Bool) (hs : s.size ≤ 9223372036854775807) (w : World) (h : LX w b s i st) :
    Calls Tryz.prog 56 #[.pointer (some ⟨b, 0, none⟩), .func (.func 77) #[] #[]] w fun e w' => e = .returned (.bool (isB rowB s i)) ∧ ∃ n, w' = w.drewN n := by
  obtain ⟨w0, rfl⟩ : ∃ w0, w0 = w := ⟨_, rfl⟩
  have c0 : w0.cell? ⟨b, 0, none⟩ = some (.string s) := blk_cell h 0
  have c1 : w0.cell? ⟨b, 1, none⟩ = some (.int .i64 i) := blk_cell h 1
  clear h
  obtain ⟨r, hr⟩ : ∃ r, r = isB rowB s i := ⟨_, rfl⟩
  rw [← hr]
  have Hr := Lib.hid hr
  clear hr
  by_cases hi : i < s.size
  · have hb := byteAt_eq s i hi
    have d1 : decide ((i : Int) < (s.size : Int)) = true := decide_eq_true (by omega)
    have Hr2 : Hid (r = rowB (byteAt s i)) := Lib.hid (by rw [Hr.out, isB, decide_eq_true hi]; rfl)
    have Hc := Lib.hid (lxRow_any (byteAt s i))
    generalize rowB (byteAt s i) = p at Hc Hr2
    go_enter Tryz.func56, Tryz.ntmps56
    go_wp2_with fail
    refine wp_region_rv 24 GQ (kindV [(21, fun v => v = .bool p)]) (by kernel_rfl) (by kernel_rfl) GQ.trans GQ.refl (GQ.start _) (kindV_mono _) ?_
    simp only [List.take_succ_cons, List.take_zero, List.drop_succ_cons, List.drop_zero]
    iterate 21 (refine rv_det (by kernel_rfl) rfl (by intro w hG hH; obtain ⟨n, rfl⟩ := hG; go_simp; first | done | with_reducible rfl) ?_; simp only [Act.put, List.setIfInBounds_toArray, List.set_cons_zero, List.set_cons_succ])
    refine rv_rel (by kernel_rfl) rfl ⟨_, rfl⟩ (by
      intro w hG hH; obtain ⟨n, rfl⟩ := hG
      refine opVal_call (by go_simp; first | done | exact ⟨⟨rfl, rfl⟩, rfl⟩) ?_
      refine (Hc.out _).mono ?_
      rintro e w' ⟨rfl, hq⟩
      exact ⟨_, rfl, rfl, by (first | (obtain ⟨nq, rfl⟩ := hq) | subst hq); (try simp only [drew_eq1, drewN_drewN]); first | exact ⟨0, rfl⟩ | exact ⟨_, rfl⟩ | exact gq_le (by omega), trivial⟩) ?_
    rintro v rfl
    simp only [Act.put, List.setIfInBounds_toArray, List.set_cons_zero, List.set_cons_succ]
    iterate 2 (refine rv_det (by kernel_rfl) rfl (by intro w hG hH; obtain ⟨n, rfl⟩ := hG; go_simp; first | done | with_reducible rfl) ?_; simp only [Act.put, List.setIfInBounds_toArray, List.set_cons_zero, List.set_cons_succ])
    refine rv_nil (fun w hG hH => ?_)
    obtain ⟨n, rfl⟩ := hG
    clear hH
    go_wp2
    go_ret
    exact ⟨ret_eq (by rw [Hr2.out]; rfl), n, rfl⟩
  · have d1 : decide ((i : Int) < (s.size : Int)) = false := decide_eq_false (by omega)
    have Hr2 : Hid (r = false) := Lib.hid (by rw [Hr.out, isB, decide_eq_false hi]; rfl)
    go_enter Tryz.func56, Tryz.ntmps56
    go_wp2_with fail
    refine wp_region_rv 24 GQ (kindV []) (by kernel_rfl) (by kernel_rfl) GQ.trans GQ.refl (GQ.start _) (kindV_mono _) ?_
    simp only [List.take_succ_cons, List.take_zero, List.drop_succ_cons, List.drop_zero]
    iterate 11 (refine rv_det (by kernel_rfl) rfl (by intro w hG hH; obtain ⟨n, rfl⟩ := hG; go_simp; first | done | with_reducible rfl) ?_; simp only [Act.put, List.setIfInBounds_toArray, List.set_cons_zero, List.set_cons_succ])
    iterate 11 (refine rv_skip (by kernel_rfl) ?_; simp only [Act.put, List.setIfInBounds_toArray, List.set_cons_zero, List.set_cons_succ])
    iterate 2 (refine rv_det (by kernel_rfl) rfl (by intro w hG hH; obtain ⟨n, rfl⟩ := hG; go_simp; first | done | with_reducible rfl) ?_; simp only [Act.put, List.setIfInBounds_toArray, List.set_cons_zero, List.set_cons_succ])
    refine rv_nil (fun w hG hH => ?_)
    obtain ⟨n, rfl⟩ := hG
    clear hH
    go_wp2
    go_ret
    exact ⟨ret_eq (by rw [Hr2.out]; rfl), n, rfl⟩

set_option maxRecDepth 100000 in
set_option maxHeartbeats 2000000 in
theorem is_lxSmall (b : Nat) (s : ByteArray) (i : Nat) (st : Bool) (hs : s.size ≤ 9223372036854775807) (w : World) (h : LX w b s i st) :
    Calls Tryz.prog 56 #[.pointer (some ⟨b, 0, none⟩), .func (.func 49) #[] #[]] w fun e w' => e = .returned (.bool (isB smallB s i)) ∧ ∃ n, w' = w.drewN n := by
  obtain ⟨w0, rfl⟩ : ∃ w0, w0 = w := ⟨_, rfl⟩
  have c0 : w0.cell? ⟨b, 0, none⟩ = some (.string s) := blk_cell h 0
  have c1 : w0.cell? ⟨b, 1, none⟩ = some (.int .i64 i) := blk_cell h 1
  clear h
  obtain ⟨r, hr⟩ : ∃ r, r = isB smallB s i := ⟨_, rfl⟩
  rw [← hr]
  have Hr := Lib.hid hr
  clear hr
  by_cases hi : i < s.size
  · have hb := byteAt_eq s i hi
    have d1 : decide ((i : Int) < (s.size : Int)) = true := decide_eq_true (by omega)
    have Hr2 : Hid (r = smallB (byteAt s i)) := Lib.hid (by rw [Hr.out, isB, decide_eq_true hi]; rfl)
    have Hc := Lib.hid (lxSmall_any (byteAt s i))
    generalize smallB (byteAt s i) = p at Hc Hr2
    go_enter Tryz.func56, Tryz.ntmps56
    go_wp2_with fail
    refine wp_region_rv 24 GQ (kindV [(21, fun v => v = .bool p)]) (by kernel_rfl) (by kernel_rfl) GQ.trans GQ.refl (GQ.start _) (kindV_mono _) ?_
    simp only [List.take_succ_cons, List.take_zero, List.drop_succ_cons, List.drop_zero]
    iterate 21 (refine rv_det (by kernel_rfl) rfl (by intro w hG hH; obtain ⟨n, rfl⟩ := hG; go_simp; first | done | with_reducible rfl) ?_; simp only [Act.put, List.setIfInBounds_toArray, List.set_cons_zero, List.set_cons_succ])
    refine rv_rel (by kernel_rfl) rfl ⟨_, rfl⟩ (by
      intro w hG hH; obtain ⟨n, rfl⟩ := hG
      refine opVal_call (by go_simp; first | done | exact ⟨⟨rfl, rfl⟩, rfl⟩) ?_
      refine (Hc.out _).mono ?_
      rintro e w' ⟨rfl, hq⟩
      exact ⟨_, rfl, rfl, by (first | (obtain ⟨nq, rfl⟩ := hq) | subst hq); (try simp only [drew_eq1, drewN_drewN]); first | exact ⟨0, rfl⟩ | exact ⟨_, rfl⟩ | exact gq_le (by omega), trivial⟩) ?_
    rintro v rfl
    simp only [Act.put, List.setIfInBounds_toArray, List.set_cons_zero, List.set_cons_succ]
    iterate 2 (refine rv_det (by kernel_rfl) rfl (by intro w hG hH; obtain ⟨n, rfl⟩ := hG; go_simp; first | done | with_reducible rfl) ?_; simp only [Act.put, List.setIfInBounds_toArray, List.set_cons_zero, List.set_cons_succ])
    refine rv_nil (fun w hG hH => ?_)
    obtain ⟨n, rfl⟩ := hG
    clear hH
    go_wp2
    go_ret
    exact ⟨ret_eq (by rw [Hr2.out]; rfl), n, rfl⟩
  · have d1 : decide ((i : Int) < (s.size : Int)) = false := decide_eq_false (by omega)
    have Hr2 : Hid (r = false) := Lib.hid (by rw [Hr.out, isB, decide_eq_false hi]; rfl)
    go_enter Tryz.func56, Tryz.ntmps56
    go_wp2_with fail
    refine wp_region_rv 24 GQ (kindV []) (by kernel_rfl) (by kernel_rfl) GQ.trans GQ.refl (GQ.start _) (kindV_mono _) ?_
    simp only [List.take_succ_cons, List.take_zero, List.drop_succ_cons, List.drop_zero]
    iterate 11 (refine rv_det (by kernel_rfl) rfl (by intro w hG hH; obtain ⟨n, rfl⟩ := hG; go_simp; first | done | with_reducible rfl) ?_; simp only [Act.put, List.setIfInBounds_toArray, List.set_cons_zero, List.set_cons_succ])
    iterate 11 (refine rv_skip (by kernel_rfl) ?_; simp only [Act.put, List.setIfInBounds_toArray, List.set_cons_zero, List.set_cons_succ])
    iterate 2 (refine rv_det (by kernel_rfl) rfl (by intro w hG hH; obtain ⟨n, rfl⟩ := hG; go_simp; first | done | with_reducible rfl) ?_; simp only [Act.put, List.setIfInBounds_toArray, List.set_cons_zero, List.set_cons_succ])
    refine rv_nil (fun w hG hH => ?_)
    obtain ⟨n, rfl⟩ := hG
    clear hH
    go_wp2
    go_ret
    exact ⟨ret_eq (by rw [Hr2.out]; rfl), n, rfl⟩
end Go.Proofs.YtcbifoimfhfccaaGreatDoor

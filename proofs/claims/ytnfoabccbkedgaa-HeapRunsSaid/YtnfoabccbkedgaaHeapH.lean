/- The walks of Heap.Counts, heap.Base. -/
import Derived.Test.YtnfoabccbkedgaaHeapG
import Derived.Test.YtnfoabccbkedgaaOwn
namespace Go.Proofs.Ytnfoabccbkedgaa
open Go.RowKit

/-- An element of an array of arenas. -/
theorem arr_at (x0 y0 x1 y1 x2 y2 x3 y3 x4 y4 : Value) : ∀ w,
    (Instr.index 59 (.agg #[x0, y0, x1, y1, x2, y2, x3, y3, x4, y4]) (.int .i64 0)).run Try.prog w = .ok (.agg #[x0, y0]) w ∧
    (Instr.index 59 (.agg #[x0, y0, x1, y1, x2, y2, x3, y3, x4, y4]) (.int .i64 1)).run Try.prog w = .ok (.agg #[x1, y1]) w ∧
    (Instr.index 59 (.agg #[x0, y0, x1, y1, x2, y2, x3, y3, x4, y4]) (.int .i64 2)).run Try.prog w = .ok (.agg #[x2, y2]) w ∧
    (Instr.index 59 (.agg #[x0, y0, x1, y1, x2, y2, x3, y3, x4, y4]) (.int .i64 3)).run Try.prog w = .ok (.agg #[x3, y3]) w ∧
    (Instr.index 59 (.agg #[x0, y0, x1, y1, x2, y2, x3, y3, x4, y4]) (.int .i64 4)).run Try.prog w = .ok (.agg #[x4, y4]) w :=
  fun w => ⟨by kernel_rfl, by kernel_rfl, by kernel_rfl, by kernel_rfl, by kernel_rfl⟩
def cnts (s : HS) (k : Nat) : List Value := (List.range k).map fun c => .int .i64 (cnt (s.T c) : Nat)
theorem cnts_succ (s : HS) (k : Nat) : cnts s (k + 1) = cnts s k ++ [.int .i64 (cnt (s.T k) : Nat)] := by unfold cnts; rw [List.range_succ]; simp

set_option maxRecDepth 100000 in
set_option maxHeartbeats 2000000 in
theorem counts_any (b : Nat) (s : HS) (w : World) (h : IH w b s) :
    Calls Try.prog 24 #[.pointer (some ⟨b,0,none⟩)] w fun e w' => ∃ v, e = .returned v ∧ w'.ownsRow w.heap.size 3 1 v 5 (cnts s 5) ∧ KB (fun _ => False) w w' := by
  have c0 := h.c0
  have t0 := cellT h (c := 0) (by omega)
  have t1 := cellT h (c := 1) (by omega)
  have t2 := cellT h (c := 2) (by omega)
  have t3 := cellT h (c := 3) (by omega)
  have t4 := cellT h (c := 4) (by omega)
  have m0 := cellM h (c := 0) (by omega)
  have m1 := cellM h (c := 1) (by omega)
  have m2 := cellM h (c := 2) (by omega)
  have m3 := cellM h (c := 3) (by omega)
  have m4 := cellM h (c := 4) (by omega)
  simp only [Nat.reduceMul, Nat.reduceAdd] at t0 t1 t2 t3 t4 m0 m1 m2 m3 m4
  clear h
  go_enter Try.func24, Try.ntmps24
  go_wp2_with fail
  refine (is_any _ true _ (by assumption)).mono ?_
  rintro e w' ⟨rfl, rfl⟩
  go_wp2_with fail
  clear t0 t1 t2 t3 t4 m0 m1 m2 m3 m4
  have ix := arr_at (.int .u16 (mk (s.T 0))) (.int .i64 (s.M 0)) (.int .u16 (mk (s.T 1))) (.int .i64 (s.M 1)) (.int .u16 (mk (s.T 2))) (.int .i64 (s.M 2)) (.int .u16 (mk (s.T 3))) (.int .i64 (s.M 3)) (.int .u16 (mk (s.T 4))) (.int .i64 (s.M 4))
  have j0 := fun w => (ix w).1
  have j1 := fun w => (ix w).2.1
  have j2 := fun w => (ix w).2.2.1
  have j3 := fun w => (ix w).2.2.2.1
  have j4 := fun w => (ix w).2.2.2.2
  clear ix
  go_loopw [3, 13] (fun v c wr => ∃ k : Nat, k ≤ 5 ∧ c = .int .i64 k ∧ wr.ownsRow w.heap.size 3 1 v k (cnts s k) ∧ KB (fun _ => False) w wr) (fun _ c _ => 5 - (intOf c).toNat)
  case atStart => exact ⟨0, by omega, rfl, World.ownsRow_nil _ _ _ _, KB.refl _ _⟩
  case round =>
    obtain ⟨k, hk, rfl, hown, hkb⟩ := hrel
    by_cases hlt : k < 5
    · have Hown := Lib.hid hown
      have Hkb := Lib.hid hkb
      have hcs := cnts_succ s k
      have hc := fun b o w hb => count_any b o (s.T k) w hb
      obtain ⟨cv, hcv⟩ : ∃ cv, cv = cnt (s.T k) := ⟨_, rfl⟩
      rw [← hcv] at hc hcs
      have Hc := Lib.hid hc
      have Hcs := Lib.hid hcs
      clear hcv hc hcs
      clear hown hkb
      obtain rfl | rfl | rfl | rfl | rfl : k = 0 ∨ k = 1 ∨ k = 2 ∨ k = 3 ∨ k = 4 := by omega
      all_goals
        go_wp2_with fail
        refine (Hc.out _ _ _ (by go_simp)).mono ?_
        rintro e w' ⟨rfl, n, rfl⟩
        go_wp2_with (at_builtin; refine Stopped.out ?_)
        refine ⟨?_⟩
        refine app1 22 3 w.heap.size (.int .i64 (cv : Nat)) Try.infoInt Try.underlying22 rfl (own_drewN ((Hown.out.alloc _).alloc _) _) rfl rfl rfl rfl (by go_simp) rfl (by decide) (by decide) (by have := Hkb.out.size; simp; omega) ?_
        intro v' w' hown' hgr
        have hk' : KB (fun _ => False) w w' := ((((Hkb.out.alloc _).alloc _).drewN _).grown hgr (own_ge Hown.out (Nat.le_refl _)))
        rw [← Hcs.out] at hown'
        clear hgr
        go_wp2
        go_roundw
        case rel => exact ⟨_, by omega, by go_num, hown', hk'⟩
        case measure => simp [intOf]
    · obtain rfl : k = 5 := by omega
      go_wp2
      go_ret
      exact ⟨_, rfl, hown, hkb⟩
end Go.Proofs.Ytnfoabccbkedgaa

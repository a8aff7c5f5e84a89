/- types.Own of int. -/
import Derived.Test.YtpigppghcghpbaaGreatDoorMg26
namespace Go.Proofs.YtpigppghcghpbaaGreatDoor
open Go.RowKit

theorem kb_new {w0 w : World} (h : KB F0 w0 w) {b : Nat} (hb : w0.heap.size ≤ b) (i : Nat) (v : Value) : KB F0 w0 (w.setCell ⟨b, i, none⟩ v) :=
  h.setCell (p := ⟨b, i, none⟩) (fun hh => by have h1 : b < w0.heap.size := hh; omega) _
theorem ret_ty {fn : Func} {R : Ending → World → Prop} {a : Act} {w : World} {p X : Nat} {k : Nat} {m : Bool} {r s : Int} {v : Value} (h : fn.results = #[.cell p 36]) (hp : a.tmps.getD p undef = .pointer (some ⟨X, 0, none⟩))
    (hc : w.heap[X]? = some (.cells #[.int .u8 k, .bool m, .int .i64 r, .int .i64 s, v] 36 (0, 0))) (hd : a.defers = []) (hR : R (.returned (.agg #[.int .u8 k, .bool m, .int .i64 r, .int .i64 s, v])) w) : bodyPost Tryz.prog fn R .ret a w := by
  refine bodyPost_ret (v := .agg #[.int .u8 k, .bool m, .int .i64 r, .int .i64 s, v]) ?_ hd hR
  have hp' : a.tmps[p]?.getD undef = .pointer (some ⟨X, 0, none⟩) := by simpa using hp
  have c0 : w.cell? ⟨X, 0, none⟩ = some (.int .u8 k) := blk_cell hc 0
  have c1 : w.cell? ⟨X, 1, none⟩ = some (.bool m) := blk_cell hc 1
  have c2 : w.cell? ⟨X, 2, none⟩ = some (.int .i64 r) := blk_cell hc 2
  have c3 : w.cell? ⟨X, 3, none⟩ = some (.int .i64 s) := blk_cell hc 3
  have c4 : w.cell? ⟨X, 4, none⟩ = some v := blk_cell hc 4
  simp only [results, h]
  go_simp
theorem ret_ty2 {fn : Func} {R : Ending → World → Prop} {a : Act} {w : World} {p q X : Nat} {k : Nat} {m : Bool} {r s : Int} {v u : Value} (h : fn.results = #[.cell p 36, .tmp q]) (hp : a.tmps.getD p undef = .pointer (some ⟨X, 0, none⟩)) (hq : a.tmps.getD q undef = u)
    (hc : w.heap[X]? = some (.cells #[.int .u8 k, .bool m, .int .i64 r, .int .i64 s, v] 36 (0, 0))) (hd : a.defers = []) (hR : R (.returned (.tuple #[.agg #[.int .u8 k, .bool m, .int .i64 r, .int .i64 s, v], u])) w) : bodyPost Tryz.prog fn R .ret a w := by
  refine bodyPost_ret (v := .tuple #[.agg #[.int .u8 k, .bool m, .int .i64 r, .int .i64 s, v], u]) ?_ hd hR
  have hp' : a.tmps[p]?.getD undef = .pointer (some ⟨X, 0, none⟩) := by simpa using hp
  have hq' : a.tmps[q]?.getD undef = u := by simpa using hq
  have c0 : w.cell? ⟨X, 0, none⟩ = some (.int .u8 k) := blk_cell hc 0
  have c1 : w.cell? ⟨X, 1, none⟩ = some (.bool m) := blk_cell hc 1
  have c2 : w.cell? ⟨X, 2, none⟩ = some (.int .i64 r) := blk_cell hc 2
  have c3 : w.cell? ⟨X, 3, none⟩ = some (.int .i64 s) := blk_cell hc 3
  have c4 : w.cell? ⟨X, 4, none⟩ = some v := blk_cell hc 4
  simp only [results, h]
  go_simp
/-- Two new blocks. -/
theorem new2 (w0 : World) (cs ds : Array Value) (s t : TypeId) : KB F0 w0 ((w0.alloc (.cells cs s)).alloc (.cells ds t)) ∧
    ((w0.alloc (.cells cs s)).alloc (.cells ds t)).heap[w0.heap.size]? = some (.cells cs s (0, 0)) ∧ ((w0.alloc (.cells cs s)).alloc (.cells ds t)).heap[w0.heap.size + 1]? = some (.cells ds t (0, 0)) := by
  have hs1 : (w0.alloc (.cells cs s)).heap.size = w0.heap.size + 1 := by simp
  exact ⟨((KB.refl _ _).alloc _).alloc _, ((KB.refl F0 _).alloc _).heap (fun x => x) (alloc_new _ _), by rw [← hs1]; exact alloc_new _ _⟩
set_option maxRecDepth 100000 in
set_option maxHeartbeats 8000000 in
theorem own_int (w : World) : Calls Tryz.prog 73 #[tyI] w fun e w' => e = .returned tyI ∧ KB F0 w w' := by
  obtain ⟨w0, rfl⟩ : ∃ w0, w0 = w := ⟨_, rfl⟩
  obtain ⟨hk, hb1, hb2⟩ := new2 w0 #[.int .u8 1, .bool false, .int .i64 0, .int .i64 0, .slice none 0 0] #[.int .u8 0, .bool false, .int .i64 0, .int .i64 0, .slice none 0 0] 36 36
  obtain ⟨W, hW⟩ : ∃ W, W = ((w0.alloc (.cells #[.int .u8 1, .bool false, .int .i64 0, .int .i64 0, .slice none 0 0] 36)).alloc (.cells #[.int .u8 0, .bool false, .int .i64 0, .int .i64 0, .slice none 0 0] 36)) := ⟨_, rfl⟩
  rw [← hW] at hk hb1 hb2
  have c0 : W.cell? ⟨w0.heap.size, 0, none⟩ = some (.int .u8 1) := blk_cell hb1 0
  have c1 : W.cell? ⟨w0.heap.size, 1, none⟩ = some (.bool false) := blk_cell hb1 1
  have c2 : W.cell? ⟨w0.heap.size, 2, none⟩ = some (.int .i64 0) := blk_cell hb1 2
  have c3 : W.cell? ⟨w0.heap.size, 3, none⟩ = some (.int .i64 0) := blk_cell hb1 3
  have c4 : W.cell? ⟨w0.heap.size, 4, none⟩ = some (.slice none 0 0) := blk_cell hb1 4
  have f4 := blk_frozen hb1 4
  have HB := Lib.hid (And.intro hk (And.intro hb1 hb2))
  have HW := Lib.hid hW
  rw [hW] at c0 c1 c2 c3 c4 f4
  clear hk hb1 hb2 hW
  unfold tyI
  go_enter Tryz.func73, Tryz.ntmps73
  go_upto_region 4 with fail
  rw [← HW.out]
  obtain ⟨hk, hb1, hb2⟩ := HB.out
  have c0 : W.cell? ⟨w0.heap.size, 0, none⟩ = some (.int .u8 1) := blk_cell hb1 0
  have c1 : W.cell? ⟨w0.heap.size, 1, none⟩ = some (.bool false) := blk_cell hb1 1
  have c2 : W.cell? ⟨w0.heap.size, 2, none⟩ = some (.int .i64 0) := blk_cell hb1 2
  have c3 : W.cell? ⟨w0.heap.size, 3, none⟩ = some (.int .i64 0) := blk_cell hb1 3
  have c4 : W.cell? ⟨w0.heap.size, 4, none⟩ = some (.slice none 0 0) := blk_cell hb1 4
  have d0 : W.cell? ⟨w0.heap.size + 1, 0, none⟩ = some (.int .u8 0) := blk_cell hb2 0
  have d1 : W.cell? ⟨w0.heap.size + 1, 1, none⟩ = some (.bool false) := blk_cell hb2 1
  have d2 : W.cell? ⟨w0.heap.size + 1, 2, none⟩ = some (.int .i64 0) := blk_cell hb2 2
  have d3 : W.cell? ⟨w0.heap.size + 1, 3, none⟩ = some (.int .i64 0) := blk_cell hb2 3
  have d4 : W.cell? ⟨w0.heap.size + 1, 4, none⟩ = some (.slice none 0 0) := blk_cell hb2 4
  have f0 := blk_frozen hb2 0
  have f1 := blk_frozen hb2 1
  have f2 := blk_frozen hb2 2
  have f3 := blk_frozen hb2 3
  have f4 := blk_frozen hb2 4
  clear hk hb1 hb2
  go_wp2_with fail
  refine ret_ty (X := w0.heap.size + 1) rfl rfl (setCell_blk (i := 4) (setCell_blk (i := 3) (setCell_blk (i := 2) (setCell_blk (i := 1) (setCell_blk (i := 0) HB.out.2.2 (.int .u8 1)) (.bool false)) (.int .i64 0)) (.int .i64 0)) (.slice none 0 0)) rfl ⟨rfl, ?_⟩
  exact kb_new (kb_new (kb_new (kb_new (kb_new HB.out.1 (Nat.le_succ _) 0 _) (Nat.le_succ _) 1 _) (Nat.le_succ _) 2 _) (Nat.le_succ _) 3 _) (Nat.le_succ _) 4 _
set_option maxRecDepth 100000 in
set_option maxHeartbeats 8000000 in
theorem Own_int (w : World) : Calls Tryz.prog 56 #[tyI] w fun e w' => e = .returned (.tuple #[tyI, .int .i64 0]) ∧ KB F0 w w' := by
  obtain ⟨w0, rfl⟩ : ∃ w0, w0 = w := ⟨_, rfl⟩
  obtain ⟨hk, hb1, hb2⟩ := new2 w0 #[.int .u8 1, .bool false, .int .i64 0, .int .i64 0, .slice none 0 0] #[.int .u8 0, .bool false, .int .i64 0, .int .i64 0, .slice none 0 0] 36 36
  obtain ⟨W, hW⟩ : ∃ W, W = ((w0.alloc (.cells #[.int .u8 1, .bool false, .int .i64 0, .int .i64 0, .slice none 0 0] 36)).alloc (.cells #[.int .u8 0, .bool false, .int .i64 0, .int .i64 0, .slice none 0 0] 36)) := ⟨_, rfl⟩
  rw [← hW] at hk hb1 hb2
  have HB := Lib.hid (And.intro hk (And.intro hb1 hb2))
  have HW := Lib.hid hW
  have M := Lib.hid (fun (w : World) => tymay_int w)
  have O := Lib.hid (fun (w : World) => own_int w)
  unfold tyI at M O ⊢
  clear hk hb1 hb2 hW
  go_enter Tryz.func56, Tryz.ntmps56
  go_wp2_with fail
  rw [← HW.out]
  refine (M.out _).mono ?_
  rintro e w1 ⟨rfl, k1⟩
  have hb1 := k1.heap (fun x => x) HB.out.2.1
  have hb2 := k1.heap (fun x => x) HB.out.2.2
  have c0 : w1.cell? ⟨w0.heap.size, 0, none⟩ = some (.int .u8 1) := blk_cell hb1 0
  have c1 : w1.cell? ⟨w0.heap.size, 1, none⟩ = some (.bool false) := blk_cell hb1 1
  have c2 : w1.cell? ⟨w0.heap.size, 2, none⟩ = some (.int .i64 0) := blk_cell hb1 2
  have c3 : w1.cell? ⟨w0.heap.size, 3, none⟩ = some (.int .i64 0) := blk_cell hb1 3
  have c4 : w1.cell? ⟨w0.heap.size, 4, none⟩ = some (.slice none 0 0) := blk_cell hb1 4
  have H1 := Lib.hid (And.intro (HB.out.1.trans k1) hb2)
  clear k1 hb1 hb2
  go_wp2_with fail
  refine (O.out _).mono ?_
  rintro e w2 ⟨rfl, k2⟩
  have hb2 := k2.heap (fun x => x) H1.out.2
  have d0 : w2.cell? ⟨w0.heap.size + 1, 0, none⟩ = some (.int .u8 0) := blk_cell hb2 0
  have d1 : w2.cell? ⟨w0.heap.size + 1, 1, none⟩ = some (.bool false) := blk_cell hb2 1
  have d2 : w2.cell? ⟨w0.heap.size + 1, 2, none⟩ = some (.int .i64 0) := blk_cell hb2 2
  have d3 : w2.cell? ⟨w0.heap.size + 1, 3, none⟩ = some (.int .i64 0) := blk_cell hb2 3
  have d4 : w2.cell? ⟨w0.heap.size + 1, 4, none⟩ = some (.slice none 0 0) := blk_cell hb2 4
  have f0 := blk_frozen hb2 0
  have f1 := blk_frozen hb2 1
  have f2 := blk_frozen hb2 2
  have f3 := blk_frozen hb2 3
  have f4 := blk_frozen hb2 4
  have H2 := Lib.hid (And.intro (H1.out.1.trans k2) hb2)
  clear k2 hb2 c0 c1 c2 c3 c4
  go_wp2_with fail
  refine ret_ty2 (X := w0.heap.size + 1) rfl rfl rfl (setCell_blk (i := 4) (setCell_blk (i := 3) (setCell_blk (i := 2) (setCell_blk (i := 1) (setCell_blk (i := 0) H2.out.2 (.int .u8 1)) (.bool false)) (.int .i64 0)) (.int .i64 0)) (.slice none 0 0)) rfl ⟨rfl, ?_⟩
  exact kb_new (kb_new (kb_new (kb_new (kb_new H2.out.1 (Nat.le_succ _) 0 _) (Nat.le_succ _) 1 _) (Nat.le_succ _) 2 _) (Nat.le_succ _) 3 _) (Nat.le_succ _) 4 _
end Go.Proofs.YtpigppghcghpbaaGreatDoor

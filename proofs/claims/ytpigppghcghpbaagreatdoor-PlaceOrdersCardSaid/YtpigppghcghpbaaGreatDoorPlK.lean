/- The types of awake: int, and a reference to it. -/
import Derived.Test.YtpigppghcghpbaaGreatDoorPlJ
namespace Go.Proofs.YtpigppghcghpbaaGreatDoor
open Go.RowKit

def tyI : Value := .agg #[.int .u8 1, .bool false, .int .i64 0, .int .i64 0, .slice none 0 0]
def tyIc : Array Value := #[.int .u8 1, .bool false, .int .i64 0, .int .i64 0, .slice none 0 0]
def tyR (g : Nat) : Value := .agg #[.int .u8 4, .bool true, .int .i64 (-1), .int .i64 0, .slice (some ⟨g, 0, none⟩) 1 1]
/-- The block g holds int. -/
def IntTyAt (w : World) (g : Nat) : Prop := w.heap[g]? = some (.cells #[.int .u8 1, .bool false, .int .i64 0, .int .i64 0, .slice none 0 0] 36 (0, 0))
theorem IntTyAt.kb {w w' : World} {g : Nat} (h : IntTyAt w g) (hk : KB F0 w w') : IntTyAt w' g := hk.heap (fun x => x) h
set_option maxRecDepth 100000 in
set_option maxHeartbeats 8000000 in
theorem look_int (S n : Int) (hn : (n == 0) = false) (w : World) : Calls Tryz.prog 77 #[tyI, .int .i64 S, .int .i64 n] w fun e w' => e = .returned (.bool true) ∧ KB F0 w w' := by
  obtain ⟨w0, rfl⟩ : ∃ w0, w0 = w := ⟨_, rfl⟩
  unfold tyI
  obtain ⟨W1, hW1⟩ : ∃ W1, W1 = w0.alloc (.cells tyIc 36) := ⟨_, rfl⟩
  have hb : W1.heap[w0.heap.size]? = some (.cells tyIc 36 (0, 0)) := by rw [hW1]; exact alloc_new _ _
  have HK : Hid (KB F0 w0 W1) := Lib.hid (by rw [hW1]; exact (KB.refl _ _).alloc _)
  have c0 := blk_cell hb 0
  have c1 := blk_cell hb 1
  have c2 := blk_cell hb 2
  have c3 := blk_cell hb 3
  have c4 := blk_cell hb 4
  have HW := Lib.hid hW1
  rw [hW1] at c0 c1 c2 c3 c4
  unfold tyIc at c0 c1 c2 c3 c4 HW
  clear hW1 hb
  go_enter Tryz.func77, Tryz.ntmps77
  go_wp2_with fail
  go_ret
  exact ⟨rfl, by rw [← HW.out]; exact HK.out⟩
set_option maxRecDepth 100000 in
set_option maxHeartbeats 8000000 in
theorem look_ref (S : Int) (g : Nat) (w : World) (h : IntTyAt w g) : Calls Tryz.prog 77 #[tyR g, .int .i64 S, .int .i64 48] w fun e w' => e = .returned (.bool true) ∧ KB F0 w w' := by
  obtain ⟨w0, rfl⟩ : ∃ w0, w0 = w := ⟨_, rfl⟩
  have LK := Lib.hid (fun (W : World) => look_int S 47 rfl W)
  unfold tyI at LK
  have hk := (KB.refl F0 w0).alloc (.cells #[.int .u8 4, .bool true, .int .i64 (-1), .int .i64 0, .slice (some ⟨g, 0, none⟩) 1 1] 36)
  have hg := h.kb hk
  have hb := alloc_new w0 (.cells #[.int .u8 4, .bool true, .int .i64 (-1), .int .i64 0, .slice (some ⟨g, 0, none⟩) 1 1] 36)
  have g0 : (w0.alloc (.cells #[.int .u8 4, .bool true, .int .i64 (-1), .int .i64 0, .slice (some ⟨g, 0, none⟩) 1 1] 36)).cell? ⟨g, 0, none⟩ = some (.int .u8 1) := blk_cell hg 0
  have g1 : (w0.alloc (.cells #[.int .u8 4, .bool true, .int .i64 (-1), .int .i64 0, .slice (some ⟨g, 0, none⟩) 1 1] 36)).cell? ⟨g, 1, none⟩ = some (.bool false) := blk_cell hg 1
  have g2 : (w0.alloc (.cells #[.int .u8 4, .bool true, .int .i64 (-1), .int .i64 0, .slice (some ⟨g, 0, none⟩) 1 1] 36)).cell? ⟨g, 2, none⟩ = some (.int .i64 0) := blk_cell hg 2
  have g3 : (w0.alloc (.cells #[.int .u8 4, .bool true, .int .i64 (-1), .int .i64 0, .slice (some ⟨g, 0, none⟩) 1 1] 36)).cell? ⟨g, 3, none⟩ = some (.int .i64 0) := blk_cell hg 3
  have g4 : (w0.alloc (.cells #[.int .u8 4, .bool true, .int .i64 (-1), .int .i64 0, .slice (some ⟨g, 0, none⟩) 1 1] 36)).cell? ⟨g, 4, none⟩ = some (.slice none 0 0) := blk_cell hg 4
  have c0 := blk_cell hb 0
  have c1 := blk_cell hb 1
  have c2 := blk_cell hb 2
  have c3 := blk_cell hb 3
  have c4 := blk_cell hb 4
  have HB := Lib.hid (And.intro hk hb)
  clear hk hg hb h
  unfold tyR
  go_enter Tryz.func77, Tryz.ntmps77
  go_wp2_with fail
  refine (LK.out _).mono ?_
  rintro e w1 ⟨rfl, k1⟩
  have hb := k1.heap (fun x => x) HB.out.2
  have d0 : w1.cell? ⟨w0.heap.size, 0, none⟩ = some (.int .u8 4) := blk_cell hb 0
  have d1 : w1.cell? ⟨w0.heap.size, 1, none⟩ = some (.bool true) := blk_cell hb 1
  have d2 : w1.cell? ⟨w0.heap.size, 2, none⟩ = some (.int .i64 (-1)) := blk_cell hb 2
  have d3 : w1.cell? ⟨w0.heap.size, 3, none⟩ = some (.int .i64 0) := blk_cell hb 3
  have HK := Lib.hid (HB.out.1.trans k1)
  clear c0 c1 c2 c3 c4 g0 g1 g2 g3 g4 k1 hb
  go_wp2_with fail
  go_ret
  exact ⟨rfl, HK.out⟩
end Go.Proofs.YtpigppghcghpbaaGreatDoor

/- types.Structs of no structs. -/
import Derived.Test.YtpigppghcghpbaaGreatDoorPlI
namespace Go.Proofs.YtpigppghcghpbaaGreatDoor
open Go.RowKit

set_option maxRecDepth 100000 in
set_option maxHeartbeats 8000000 in
theorem first_zero (f : Value) (w : World) : Calls Tryz.prog 83 #[.int .i64 0, f] w fun e w' => e = .returned (.int .i64 0) ∧ w' = w := by
  obtain ⟨w0, rfl⟩ : ∃ w0, w0 = w := ⟨_, rfl⟩
  go_enter Tryz.func83, Tryz.ntmps83
  go_wp2_with fail
  go_loopw [7] (fun kv wr => kv = .int .i64 0 ∧ wr = w0) (fun _ _ => 0)
  case atStart => exact ⟨rfl, rfl⟩
  case round =>
    obtain ⟨rfl, rfl⟩ := hrel
    go_wp2_with fail
    go_ret
    exact ⟨rfl, rfl⟩
set_option maxRecDepth 100000 in
set_option maxHeartbeats 8000000 in
theorem structs_nil (c : Nat) (w : World) : Calls Tryz.prog 57 #[.slice none 0 c] w fun e w' => e = .returned (.tuple #[.int .i64 0, .int .i64 0]) ∧ KB F0 w w' := by
  obtain ⟨w0, rfl⟩ : ∃ w0, w0 = w := ⟨_, rfl⟩
  go_enter Tryz.func57, Tryz.ntmps57
  go_wp2_with fail
  obtain ⟨W, hW⟩ : ∃ W, W = (((w0.alloc (Obj.cells #[Value.slice none 0 c] 22)).alloc (Obj.cells #[Value.int IntKind.i64 0] 3)).alloc
      (Obj.cells #[Value.func (Fn.func 74) #[] #[Value.pointer (some { block := w0.heap.size, off := 0 }), Value.pointer (some { block := w0.heap.size + 1, off := 0 })],
          Value.func (Fn.func 79) #[] #[Value.pointer (some { block := w0.heap.size, off := 0 })],
          Value.func (Fn.func 81) #[] #[Value.pointer (some { block := w0.heap.size, off := 0 })]] 97)) := ⟨_, rfl⟩
  have HK : Hid (KB F0 w0 W) := Lib.hid (by rw [hW]; exact (((KB.refl _ _).alloc _).alloc _).alloc _)
  have hs1 : ((w0.alloc (Obj.cells #[Value.slice none 0 c] 22)).alloc (Obj.cells #[Value.int IntKind.i64 0] 3)).heap.size = w0.heap.size + 1 + 1 := by simp
  have hb : W.heap[w0.heap.size + 1 + 1]? = some (.cells #[Value.func (Fn.func 74) #[] #[Value.pointer (some { block := w0.heap.size, off := 0 }), Value.pointer (some { block := w0.heap.size + 1, off := 0 })],
          Value.func (Fn.func 79) #[] #[Value.pointer (some { block := w0.heap.size, off := 0 })],
          Value.func (Fn.func 81) #[] #[Value.pointer (some { block := w0.heap.size, off := 0 })]] 97 (0, 0)) := by rw [hW, ← hs1]; exact alloc_new _ _
  have hs0 : (w0.alloc (Obj.cells #[Value.slice none 0 c] 22)).heap.size = w0.heap.size + 1 := by simp
  have hi : W.heap[w0.heap.size + 1]? = some (.cells #[.int .i64 0] 3 (0, 0)) := by rw [hW, ← hs0]; exact ((KB.refl F0 _).alloc _).heap (fun x => x) (alloc_new _ _)
  have c0 := blk_cell hb 0
  have c1 := blk_cell hb 1
  have c2 := blk_cell hb 2
  have n0 : W.cell? ⟨w0.heap.size + 1, 0, none⟩ = some (.int .i64 0) := blk_cell hi 0
  rw [← hW]
  clear hb hs1 hs0 hi hW
  go_loopw [19] (fun kv wr => ∃ k : Nat, k ≤ 3 ∧ kv = .int .i64 (k : Nat) ∧ wr = W) (fun kv _ => 3 - (intOf kv).toNat)
  case atStart => exact ⟨0, by omega, rfl, rfl⟩
  case round =>
    obtain ⟨k, hk, rfl, rfl⟩ := hrel
    obtain rfl | rfl | rfl | rfl : k = 0 ∨ k = 1 ∨ k = 2 ∨ k = 3 := by omega
    · go_wp2_with fail
      refine (first_zero _ _).mono ?_
      rintro e w1 ⟨rfl, rfl⟩
      go_wp2_with fail
      exact ⟨⟨1, by omega, rfl, trivial⟩, by simp [intOf]⟩
    · go_wp2_with fail
      refine (first_zero _ _).mono ?_
      rintro e w1 ⟨rfl, rfl⟩
      go_wp2_with fail
      exact ⟨⟨2, by omega, rfl, trivial⟩, by simp [intOf]⟩
    · go_wp2_with fail
      refine (first_zero _ _).mono ?_
      rintro e w1 ⟨rfl, rfl⟩
      go_wp2_with fail
      exact ⟨⟨3, by omega, rfl, trivial⟩, by simp [intOf]⟩
    · go_wp2_with fail
      go_ret2
      exact ⟨rfl, HK.out⟩
end Go.Proofs.YtpigppghcghpbaaGreatDoor

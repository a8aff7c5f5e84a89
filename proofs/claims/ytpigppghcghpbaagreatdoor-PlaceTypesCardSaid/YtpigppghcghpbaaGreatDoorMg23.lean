/- types.Structs of no structs. The types of awake: int, and a reference to it. types.May, Own; slices.ContainsFunc: what awake asks of them. types.Own of int. -/
import Derived.Test.YtpigppghcghpbaaGreatDoorMg12
namespace Go.Proofs.YtpigppghcghpbaaGreatDoor
open Go.RowKit

set_option maxRecDepth 100000 in
set_option maxHeartbeats 8000000 in
theorem first_zero (f : Value) (w : World) : Calls Tryz.prog 83 #[.int .i64 0, f] w fun e w' => e = .returned (.int .i64 0) ∧ w' = w := by
  obtain ⟨w0, rfl⟩ : ∃ w0, w0 = w := ⟨_, rfl⟩
  go_enter Tryz.func83, Tryz.ntmps83
  go_wp2_with fail
  go_loopw [7] (fun kv wr => kv = .int .i64 0 ∧ wr = w0) (fun _ _ => 0)
  case atStart => exact ⟨rfl, rfl⟩
  case round =>
    obtain ⟨rfl, rfl⟩ := hrel
    go_wp2_with fail
    go_ret
    exact ⟨rfl, rfl⟩
set_option maxRecDepth 100000 in
set_option maxHeartbeats 8000000 in
theorem structs_nil (c : Nat) (w : World) : Calls Tryz.prog 57 #[.slice none 0 c] w fun e w' => e = .returned (.tuple #[.int .i64 0, .int .i64 0]) ∧ KB F0 w w' := by
  obtain ⟨w0, rfl⟩ : ∃ w0, w0 = w := ⟨_, rfl⟩
  go_enter Tryz.func57, Tryz.ntmps57
  go_wp2_with fail
  obtain ⟨W, hW⟩ : ∃ W, W = (((w0.alloc (Obj.cells #[Value.slice none 0 c] 22)).alloc (Obj.cells #[Value.int IntKind.i64 0] 3)).alloc
      (Obj.cells #[Value.func (Fn.func 74) #[] #[Value.pointer (some { block := w0.heap.size, off := 0 }), Value.pointer (some { block := w0.heap.size + 1, off := 0 })],
          Value.func (Fn.func 79) #[] #[Value.pointer (some { block := w0.heap.size, off := 0 })],
          Value.func (Fn.func 81) #[] #[Value.pointer (some { block := w0.heap.size, off := 0 })]] 97)) := ⟨_, rfl⟩
  have HK : Hid (KB F0 w0 W) := Lib.hid (by rw [hW]; exact (((KB.refl _ _).alloc _).alloc _).alloc _)
  have hs1 : ((w0.alloc (Obj.cells #[Value.slice none 0 c] 22)).alloc (Obj.cells #[Value.int IntKind.i64 0] 3)).heap.size = w0.heap.size + 1 + 1 := by simp
  have hb : W.heap[w0.heap.size + 1 + 1]? = some (.cells #[Value.func (Fn.func 74) #[] #[Value.pointer (some { block := w0.heap.size, off := 0 }), Value.pointer (some { block := w0.heap.size + 1, off := 0 })],
          Value.func (Fn.func 79) #[] #[Value.pointer (some { block := w0.heap.size, off := 0 })],
          Value.func (Fn.func 81) #[] #[Value.pointer (some { block := w0.heap.size, off := 0 })]] 97 (0, 0)) := by rw [hW, ← hs1]; exact alloc_new _ _
  have hs0 : (w0.alloc (Obj.cells #[Value.slice none 0 c] 22)).heap.size = w0.heap.size + 1 := by simp
  have hi : W.heap[w0.heap.size + 1]? = some (.cells #[.int .i64 0] 3 (0, 0)) := by rw [hW, ← hs0]; exact ((KB.refl F0 _).alloc _).heap (fun x => x) (alloc_new _ _)
  have c0 := blk_cell hb 0
  have c1 := blk_cell hb 1
  have c2 := blk_cell hb 2
  have n0 : W.cell? ⟨w0.heap.size + 1, 0, none⟩ = some (.int .i64 0) := blk_cell hi 0
  rw [← hW]
  clear hb hs1 hs0 hi hW
  go_loopw [19] (fun kv wr => ∃ k : Nat, k ≤ 3 ∧ kv = .int .i64 (k : Nat) ∧ wr = W) (fun kv _ => 3 - (intOf kv).toNat)
  case atStart => exact ⟨0, by omega, rfl, rfl⟩
  case round =>
    obtain ⟨k, hk, rfl, rfl⟩ := hrel
    obtain rfl | rfl | rfl | rfl : k = 0 ∨ k = 1 ∨ k = 2 ∨ k = 3 := by omega
    · go_wp2_with fail
      refine (first_zero _ _).mono ?_
      rintro e w1 ⟨rfl, rfl⟩
      go_wp2_with fail
      exact ⟨⟨1, by omega, rfl, trivial⟩, by simp [intOf]⟩
    · go_wp2_with fail
      refine (first_zero _ _).mono ?_
      rintro e w1 ⟨rfl, rfl⟩
      go_wp2_with fail
      exact ⟨⟨2, by omega, rfl, trivial⟩, by simp [intOf]⟩
    · go_wp2_with fail
      refine (first_zero _ _).mono ?_
      rintro e w1 ⟨rfl, rfl⟩
      go_wp2_with fail
      exact ⟨⟨3, by omega, rfl, trivial⟩, by simp [intOf]⟩
    · go_wp2_with fail
      go_ret2
      exact ⟨rfl, HK.out⟩
end Go.Proofs.YtpigppghcghpbaaGreatDoor

namespace Go.Proofs.YtpigppghcghpbaaGreatDoor
open Go.RowKit

def tyI : Value := .agg #[.int .u8 1, .bool false, .int .i64 0, .int .i64 0, .slice none 0 0]
def tyIc : Array Value := #[.int .u8 1, .bool false, .int .i64 0, .int .i64 0, .slice none 0 0]
def tyR (g : Nat) : Value := .agg #[.int .u8 4, .bool true, .int .i64 (-1), .int .i64 0, .slice (some ⟨g, 0, none⟩) 1 1]
/-- The block g holds int. -/
def IntTyAt (w : World) (g : Nat) : Prop := w.heap[g]? = some (.cells #[.int .u8 1, .bool false, .int .i64 0, .int .i64 0, .slice none 0 0] 36 (0, 0))
theorem IntTyAt.kb {w w' : World} {g : Nat} (h : IntTyAt w g) (hk : KB F0 w w') : IntTyAt w' g := hk.heap (fun x => x) h
set_option maxRecDepth 100000 in
set_option maxHeartbeats 8000000 in
theorem look_int (S n : Int) (hn : (n == 0) = false) (w : World) : Calls Tryz.prog 77 #[tyI, .int .i64 S, .int .i64 n] w fun e w' => e = .returned (.bool true) ∧ KB F0 w w' := by
  obtain ⟨w0, rfl⟩ : ∃ w0, w0 = w := ⟨_, rfl⟩
  unfold tyI
  obtain ⟨W1, hW1⟩ : ∃ W1, W1 = w0.alloc (.cells tyIc 36) := ⟨_, rfl⟩
  have hb : W1.heap[w0.heap.size]? = some (.cells tyIc 36 (0, 0)) := by rw [hW1]; exact alloc_new _ _
  have HK : Hid (KB F0 w0 W1) := Lib.hid (by rw [hW1]; exact (KB.refl _ _).alloc _)
  have c0 := blk_cell hb 0
  have c1 := blk_cell hb 1
  have c2 := blk_cell hb 2
  have c3 := blk_cell hb 3
  have c4 := blk_cell hb 4
  have HW := Lib.hid hW1
  rw [hW1] at c0 c1 c2 c3 c4
  unfold tyIc at c0 c1 c2 c3 c4 HW
  clear hW1 hb
  go_enter Tryz.func77, Tryz.ntmps77
  go_wp2_with fail
  go_ret
  exact ⟨rfl, by rw [← HW.out]; exact HK.out⟩
set_option maxRecDepth 100000 in
set_option maxHeartbeats 8000000 in
theorem look_ref (S : Int) (g : Nat) (w : World) (h : IntTyAt w g) : Calls Tryz.prog 77 #[tyR g, .int .i64 S, .int .i64 48] w fun e w' => e = .returned (.bool true) ∧ KB F0 w w' := by
  obtain ⟨w0, rfl⟩ : ∃ w0, w0 = w := ⟨_, rfl⟩
  have LK := Lib.hid (fun (W : World) => look_int S 47 rfl W)
  unfold tyI at LK
  have hk := (KB.refl F0 w0).alloc (.cells #[.int .u8 4, .bool true, .int .i64 (-1), .int .i64 0, .slice (some ⟨g, 0, none⟩) 1 1] 36)
  have hg := h.kb hk
  have hb := alloc_new w0 (.cells #[.int .u8 4, .bool true, .int .i64 (-1), .int .i64 0, .slice (some ⟨g, 0, none⟩) 1 1] 36)
  have g0 : (w0.alloc (.cells #[.int .u8 4, .bool true, .int .i64 (-1), .int .i64 0, .slice (some ⟨g, 0, none⟩) 1 1] 36)).cell? ⟨g, 0, none⟩ = some (.int .u8 1) := blk_cell hg 0
  have g1 : (w0.alloc (.cells #[.int .u8 4, .bool true, .int .i64 (-1), .int .i64 0, .slice (some ⟨g, 0, none⟩) 1 1] 36)).cell? ⟨g, 1, none⟩ = some (.bool false) := blk_cell hg 1
  have g2 : (w0.alloc (.cells #[.int .u8 4, .bool true, .int .i64 (-1), .int .i64 0, .slice (some ⟨g, 0, none⟩) 1 1] 36)).cell? ⟨g, 2, none⟩ = some (.int .i64 0) := blk_cell hg 2
  have g3 : (w0.alloc (.cells #[.int .u8 4, .bool true, .int .i64 (-1), .int .i64 0, .slice (some ⟨g, 0, none⟩) 1 1] 36)).cell? ⟨g, 3, none⟩ = some (.int .i64 0) := blk_cell hg 3
  have g4 : (w0.alloc (.cells #[.int .u8 4, .bool true, .int .i64 (-1), .int .i64 0, .slice (some ⟨g, 0, none⟩) 1 1] 36)).cell? ⟨g, 4, none⟩ = some (.slice none 0 0) := blk_cell hg 4
  have c0 := blk_cell hb 0
  have c1 := blk_cell hb 1
  have c2 := blk_cell hb 2
  have c3 := blk_cell hb 3
  have c4 := blk_cell hb 4
  have HB := Lib.hid (And.intro hk hb)
  clear hk hg hb h
  unfold tyR
  go_enter Tryz.func77, Tryz.ntmps77
  go_wp2_with fail
  refine (LK.out _).mono ?_
  rintro e w1 ⟨rfl, k1⟩
  have hb := k1.heap (fun x => x) HB.out.2
  have d0 : w1.cell? ⟨w0.heap.size, 0, none⟩ = some (.int .u8 4) := blk_cell hb 0
  have d1 : w1.cell? ⟨w0.heap.size, 1, none⟩ = some (.bool true) := blk_cell hb 1
  have d2 : w1.cell? ⟨w0.heap.size, 2, none⟩ = some (.int .i64 (-1)) := blk_cell hb 2
  have d3 : w1.cell? ⟨w0.heap.size, 3, none⟩ = some (.int .i64 0) := blk_cell hb 3
  have HK := Lib.hid (HB.out.1.trans k1)
  clear c0 c1 c2 c3 c4 g0 g1 g2 g3 g4 k1 hb
  go_wp2_with fail
  go_ret
  exact ⟨rfl, HK.out⟩
end Go.Proofs.YtpigppghcghpbaaGreatDoor

namespace Go.Proofs.YtpigppghcghpbaaGreatDoor
open Go.RowKit

def tyRc (g : Nat) : Array Value := #[.int .u8 4, .bool true, .int .i64 (-1), .int .i64 0, .slice (some ⟨g, 0, none⟩) 1 1]
set_option maxRecDepth 100000 in
set_option maxHeartbeats 8000000 in
theorem may_ref (g c : Nat) (w : World) (h : IntTyAt w g) : Calls Tryz.prog 60 #[.slice none 0 c, tyR g] w fun e w' => e = .returned (.bool true) ∧ KB F0 w w' := by
  obtain ⟨w0, rfl⟩ : ∃ w0, w0 = w := ⟨_, rfl⟩
  have ka := (KB.refl F0 w0).alloc (.cells #[.int .u8 4, .bool true, .int .i64 (-1), .int .i64 0, .slice (some ⟨g, 0, none⟩) 1 1] 36)
  have hb := alloc_new w0 (.cells #[.int .u8 4, .bool true, .int .i64 (-1), .int .i64 0, .slice (some ⟨g, 0, none⟩) 1 1] 36)
  have HB := Lib.hid (And.intro ka hb)
  have LK := Lib.hid (fun (W : World) (hk : KB F0 w0 W) => look_ref 0 g W (h.kb hk))
  unfold tyR at LK ⊢
  clear ka hb h
  go_enter Tryz.func60, Tryz.ntmps60
  go_wp2_with fail
  refine (structs_nil c _).mono ?_
  rintro e w1 ⟨rfl, k1⟩
  have hb := k1.heap (fun x => x) HB.out.2
  have d0 : w1.cell? ⟨w0.heap.size, 0, none⟩ = some (.int .u8 4) := blk_cell hb 0
  have d1 : w1.cell? ⟨w0.heap.size, 1, none⟩ = some (.bool true) := blk_cell hb 1
  have d2 : w1.cell? ⟨w0.heap.size, 2, none⟩ = some (.int .i64 (-1)) := blk_cell hb 2
  have d3 : w1.cell? ⟨w0.heap.size, 3, none⟩ = some (.int .i64 0) := blk_cell hb 3
  have d4 : w1.cell? ⟨w0.heap.size, 4, none⟩ = some (.slice (some ⟨g, 0, none⟩) 1 1) := blk_cell hb 4
  have HK := Lib.hid (HB.out.1.trans k1)
  clear k1 hb
  go_wp2_with fail
  refine (LK.out _ HK.out).mono ?_
  rintro e w2 ⟨rfl, k2⟩
  have HK2 := Lib.hid (HK.out.trans k2)
  clear k2 d0 d1 d2 d3 d4
  go_wp2_with fail
  go_ret
  exact ⟨rfl, HK2.out⟩
set_option maxRecDepth 100000 in
set_option maxHeartbeats 8000000 in
theorem walk1_ref (g c nb : Nat) (w : World) (h : IntTyAt w g) (hs : w.heap[nb]? = some (.cells #[.slice none 0 c] 22 (0, 0))) : Calls Tryz.prog 59 #[tyR g, .pointer (some ⟨nb, 0, none⟩)] w fun e w' => e = .returned (.bool false) ∧ KB F0 w w' := by
  obtain ⟨w0, rfl⟩ : ∃ w0, w0 = w := ⟨_, rfl⟩
  have ka := (KB.refl F0 w0).alloc (.cells #[.int .u8 4, .bool true, .int .i64 (-1), .int .i64 0, .slice (some ⟨g, 0, none⟩) 1 1] 36)
  have hsb := ka.heap (fun x => x) hs
  have s0 : (w0.alloc (.cells #[.int .u8 4, .bool true, .int .i64 (-1), .int .i64 0, .slice (some ⟨g, 0, none⟩) 1 1] 36)).cell? ⟨nb, 0, none⟩ = some (.slice none 0 c) := blk_cell hsb 0
  have LK := Lib.hid (may_ref g c _ (h.kb ka))
  have HA := Lib.hid ka
  unfold tyR at LK ⊢
  clear ka hsb h hs
  go_enter Tryz.func59, Tryz.ntmps59
  go_wp2_with fail
  refine LK.out.mono ?_
  rintro e w1 ⟨rfl, k1⟩
  have HK := Lib.hid (HA.out.trans k1)
  clear k1 s0
  go_wp2_with fail
  go_ret
  exact ⟨rfl, HK.out⟩
/-- A list of the one type. -/
def RefTysAt (w : World) (l g : Nat) : Prop := w.heap[l]? = some (.cells #[.int .u8 4, .bool true, .int .i64 (-1), .int .i64 0, .slice (some ⟨g, 0, none⟩) 1 1] 36 (0, 0)) ∧ IntTyAt w g
theorem RefTysAt.kb {w w' : World} {l g : Nat} (h : RefTysAt w l g) (hk : KB F0 w w') : RefTysAt w' l g := ⟨hk.heap (fun x => x) h.1, h.2.kb hk⟩
set_option maxRecDepth 100000 in
set_option maxHeartbeats 8000000 in
theorem indexTy_ref (l g c nb : Nat) (w : World) (h : RefTysAt w l g) (hs : w.heap[nb]? = some (.cells #[.slice none 0 c] 22 (0, 0))) :
    Calls Tryz.prog 84 #[.slice (some ⟨l, 0, none⟩) 1 1, .func (.func 59) #[] #[.pointer (some ⟨nb, 0, none⟩)]] w fun e w' => e = .returned (.int .i64 (-1)) ∧ KB F0 w w' := by
  obtain ⟨w0, rfl⟩ : ∃ w0, w0 = w := ⟨_, rfl⟩
  have H := Lib.hid (And.intro h hs)
  have LK := Lib.hid (fun (W : World) (hk : KB F0 w0 W) => walk1_ref g c nb W (h.2.kb hk) (hk.heap (fun x => x) hs))
  unfold tyR at LK
  clear h hs
  go_enter Tryz.func84, Tryz.ntmps84
  go_wp2_with fail
  go_loopw [8] (fun kv wr => ∃ k : Nat, k ≤ 1 ∧ kv = .int .i64 (k : Nat) ∧ KB F0 w0 wr) (fun kv _ => 1 - (intOf kv).toNat)
  case atStart => exact ⟨0, by omega, rfl, KB.refl _ _⟩
  case round =>
    obtain ⟨k, hk, rfl, hkb⟩ := hrel
    obtain rfl | rfl : k = 0 ∨ k = 1 := by omega
    · have hb := hkb.heap (fun x => x) H.out.1.1
      have d0 : wr.cell? ⟨l, 0, none⟩ = some (.int .u8 4) := blk_cell hb 0
      have d1 : wr.cell? ⟨l, 1, none⟩ = some (.bool true) := blk_cell hb 1
      have d2 : wr.cell? ⟨l, 2, none⟩ = some (.int .i64 (-1)) := blk_cell hb 2
      have d3 : wr.cell? ⟨l, 3, none⟩ = some (.int .i64 0) := blk_cell hb 3
      have d4 : wr.cell? ⟨l, 4, none⟩ = some (.slice (some ⟨g, 0, none⟩) 1 1) := blk_cell hb 4
      have HK := Lib.hid hkb
      clear hkb hb
      go_wp2_with fail
      refine (LK.out _ HK.out).mono ?_
      rintro e w1 ⟨rfl, k1⟩
      have HK1 := Lib.hid (HK.out.trans k1)
      clear k1 d0 d1 d2 d3 d4
      go_wp2_with fail
      exact ⟨⟨1, by omega, rfl, HK1.out⟩, by simp [intOf]⟩
    · have HK := Lib.hid hkb
      clear hkb
      go_wp2_with fail
      go_ret
      exact ⟨rfl, HK.out⟩
set_option maxRecDepth 100000 in
set_option maxHeartbeats 8000000 in
theorem containsTy_ref (l g c nb : Nat) (w : World) (h : RefTysAt w l g) (hs : w.heap[nb]? = some (.cells #[.slice none 0 c] 22 (0, 0))) :
    Calls Tryz.prog 58 #[.slice (some ⟨l, 0, none⟩) 1 1, .func (.func 59) #[] #[.pointer (some ⟨nb, 0, none⟩)]] w fun e w' => e = .returned (.bool false) ∧ KB F0 w w' := by
  have LK := Lib.hid (indexTy_ref l g c nb w h hs)
  clear h hs
  go_enter Tryz.func58, Tryz.ntmps58
  go_wp2_with fail
  refine LK.out.mono ?_
  rintro e w1 ⟨rfl, k1⟩
  have HK := Lib.hid k1
  clear k1
  go_wp2_with fail
  go_ret
  exact ⟨rfl, HK.out⟩
set_option maxRecDepth 100000 in
set_option maxHeartbeats 8000000 in
theorem tymay_int (w : World) : Calls Tryz.prog 72 #[tyI] w fun e w' => e = .returned (.bool true) ∧ KB F0 w w' := by
  obtain ⟨w0, rfl⟩ : ∃ w0, w0 = w := ⟨_, rfl⟩
  have ka := (KB.refl F0 w0).alloc (.cells #[.int .u8 1, .bool false, .int .i64 0, .int .i64 0, .slice none 0 0] 36)
  have HA := Lib.hid ka
  have LK := Lib.hid (fun (W : World) => look_int 32 48 rfl W)
  unfold tyI at LK ⊢
  clear ka
  go_enter Tryz.func72, Tryz.ntmps72
  go_wp2_with fail
  refine (LK.out _).mono ?_
  rintro e w1 ⟨rfl, k1⟩
  have HK := Lib.hid (HA.out.trans k1)
  clear k1
  go_wp2_with fail
  go_ret
  exact ⟨rfl, HK.out⟩
end Go.Proofs.YtpigppghcghpbaaGreatDoor

namespace Go.Proofs.YtpigppghcghpbaaGreatDoor
open Go.RowKit

theorem kb_new {w0 w : World} (h : KB F0 w0 w) {b : Nat} (hb : w0.heap.size ≤ b) (i : Nat) (v : Value) : KB F0 w0 (w.setCell ⟨b, i, none⟩ v) :=
  h.setCell (p := ⟨b, i, none⟩) (fun hh => by have h1 : b < w0.heap.size := hh; omega) _
theorem ret_ty {fn : Func} {R : Ending → World → Prop} {a : Act} {w : World} {p X : Nat} {k : Nat} {m : Bool} {r s : Int} {v : Value} (h : fn.results = #[.cell p 36]) (hp : a.tmps.getD p undef = .pointer (some ⟨X, 0, none⟩))
    (hc : w.heap[X]? = some (.cells #[.int .u8 k, .bool m, .int .i64 r, .int .i64 s, v] 36 (0, 0))) (hd : a.defers = []) (hR : R (.returned (.agg #[.int .u8 k, .bool m, .int .i64 r, .int .i64 s, v])) w) : bodyPost Tryz.prog fn R .ret a w := by
  refine bodyPost_ret (v := .agg #[.int .u8 k, .bool m, .int .i64 r, .int .i64 s, v]) ?_ hd hR
  have hp' : a.tmps[p]?.getD undef = .pointer (some ⟨X, 0, none⟩) := by simpa using hp
  have c0 : w.cell? ⟨X, 0, none⟩ = some (.int .u8 k) := blk_cell hc 0
  have c1 : w.cell? ⟨X, 1, none⟩ = some (.bool m) := blk_cell hc 1
  have c2 : w.cell? ⟨X, 2, none⟩ = some (.int .i64 r) := blk_cell hc 2
  have c3 : w.cell? ⟨X, 3, none⟩ = some (.int .i64 s) := blk_cell hc 3
  have c4 : w.cell? ⟨X, 4, none⟩ = some v := blk_cell hc 4
  simp only [results, h]
  go_simp
theorem ret_ty2 {fn : Func} {R : Ending → World → Prop} {a : Act} {w : World} {p q X : Nat} {k : Nat} {m : Bool} {r s : Int} {v u : Value} (h : fn.results = #[.cell p 36, .tmp q]) (hp : a.tmps.getD p undef = .pointer (some ⟨X, 0, none⟩)) (hq : a.tmps.getD q undef = u)
    (hc : w.heap[X]? = some (.cells #[.int .u8 k, .bool m, .int .i64 r, .int .i64 s, v] 36 (0, 0))) (hd : a.defers = []) (hR : R (.returned (.tuple #[.agg #[.int .u8 k, .bool m, .int .i64 r, .int .i64 s, v], u])) w) : bodyPost Tryz.prog fn R .ret a w := by
  refine bodyPost_ret (v := .tuple #[.agg #[.int .u8 k, .bool m, .int .i64 r, .int .i64 s, v], u]) ?_ hd hR
  have hp' : a.tmps[p]?.getD undef = .pointer (some ⟨X, 0, none⟩) := by simpa using hp
  have hq' : a.tmps[q]?.getD undef = u := by simpa using hq
  have c0 : w.cell? ⟨X, 0, none⟩ = some (.int .u8 k) := blk_cell hc 0
  have c1 : w.cell? ⟨X, 1, none⟩ = some (.bool m) := blk_cell hc 1
  have c2 : w.cell? ⟨X, 2, none⟩ = some (.int .i64 r) := blk_cell hc 2
  have c3 : w.cell? ⟨X, 3, none⟩ = some (.int .i64 s) := blk_cell hc 3
  have c4 : w.cell? ⟨X, 4, none⟩ = some v := blk_cell hc 4
  simp only [results, h]
  go_simp
/-- Two new blocks. -/
theorem new2 (w0 : World) (cs ds : Array Value) (s t : TypeId) : KB F0 w0 ((w0.alloc (.cells cs s)).alloc (.cells ds t)) ∧
    ((w0.alloc (.cells cs s)).alloc (.cells ds t)).heap[w0.heap.size]? = some (.cells cs s (0, 0)) ∧ ((w0.alloc (.cells cs s)).alloc (.cells ds t)).heap[w0.heap.size + 1]? = some (.cells ds t (0, 0)) := by
  have hs1 : (w0.alloc (.cells cs s)).heap.size = w0.heap.size + 1 := by simp
  exact ⟨((KB.refl _ _).alloc _).alloc _, ((KB.refl F0 _).alloc _).heap (fun x => x) (alloc_new _ _), by rw [← hs1]; exact alloc_new _ _⟩
set_option maxRecDepth 100000 in
set_option maxHeartbeats 8000000 in
theorem own_int (w : World) : Calls Tryz.prog 73 #[tyI] w fun e w' => e = .returned tyI ∧ KB F0 w w' := by
  obtain ⟨w0, rfl⟩ : ∃ w0, w0 = w := ⟨_, rfl⟩
  obtain ⟨hk, hb1, hb2⟩ := new2 w0 #[.int .u8 1, .bool false, .int .i64 0, .int .i64 0, .slice none 0 0] #[.int .u8 0, .bool false, .int .i64 0, .int .i64 0, .slice none 0 0] 36 36
  obtain ⟨W, hW⟩ : ∃ W, W = ((w0.alloc (.cells #[.int .u8 1, .bool false, .int .i64 0, .int .i64 0, .slice none 0 0] 36)).alloc (.cells #[.int .u8 0, .bool false, .int .i64 0, .int .i64 0, .slice none 0 0] 36)) := ⟨_, rfl⟩
  rw [← hW] at hk hb1 hb2
  have c0 : W.cell? ⟨w0.heap.size, 0, none⟩ = some (.int .u8 1) := blk_cell hb1 0
  have c1 : W.cell? ⟨w0.heap.size, 1, none⟩ = some (.bool false) := blk_cell hb1 1
  have c2 : W.cell? ⟨w0.heap.size, 2, none⟩ = some (.int .i64 0) := blk_cell hb1 2
  have c3 : W.cell? ⟨w0.heap.size, 3, none⟩ = some (.int .i64 0) := blk_cell hb1 3
  have c4 : W.cell? ⟨w0.heap.size, 4, none⟩ = some (.slice none 0 0) := blk_cell hb1 4
  have f4 := blk_frozen hb1 4
  have HB := Lib.hid (And.intro hk (And.intro hb1 hb2))
  have HW := Lib.hid hW
  rw [hW] at c0 c1 c2 c3 c4 f4
  clear hk hb1 hb2 hW
  unfold tyI
  go_enter Tryz.func73, Tryz.ntmps73
  go_upto_region 4 with fail
  rw [← HW.out]
  obtain ⟨hk, hb1, hb2⟩ := HB.out
  have c0 : W.cell? ⟨w0.heap.size, 0, none⟩ = some (.int .u8 1) := blk_cell hb1 0
  have c1 : W.cell? ⟨w0.heap.size, 1, none⟩ = some (.bool false) := blk_cell hb1 1
  have c2 : W.cell? ⟨w0.heap.size, 2, none⟩ = some (.int .i64 0) := blk_cell hb1 2
  have c3 : W.cell? ⟨w0.heap.size, 3, none⟩ = some (.int .i64 0) := blk_cell hb1 3
  have c4 : W.cell? ⟨w0.heap.size, 4, none⟩ = some (.slice none 0 0) := blk_cell hb1 4
  have d0 : W.cell? ⟨w0.heap.size + 1, 0, none⟩ = some (.int .u8 0) := blk_cell hb2 0
  have d1 : W.cell? ⟨w0.heap.size + 1, 1, none⟩ = some (.bool false) := blk_cell hb2 1
  have d2 : W.cell? ⟨w0.heap.size + 1, 2, none⟩ = some (.int .i64 0) := blk_cell hb2 2
  have d3 : W.cell? ⟨w0.heap.size + 1, 3, none⟩ = some (.int .i64 0) := blk_cell hb2 3
  have d4 : W.cell? ⟨w0.heap.size + 1, 4, none⟩ = some (.slice none 0 0) := blk_cell hb2 4
  have f0 := blk_frozen hb2 0
  have f1 := blk_frozen hb2 1
  have f2 := blk_frozen hb2 2
  have f3 := blk_frozen hb2 3
  have f4 := blk_frozen hb2 4
  clear hk hb1 hb2
  go_wp2_with fail
  refine ret_ty (X := w0.heap.size + 1) rfl rfl (setCell_blk (i := 4) (setCell_blk (i := 3) (setCell_blk (i := 2) (setCell_blk (i := 1) (setCell_blk (i := 0) HB.out.2.2 (.int .u8 1)) (.bool false)) (.int .i64 0)) (.int .i64 0)) (.slice none 0 0)) rfl ⟨rfl, ?_⟩
  exact kb_new (kb_new (kb_new (kb_new (kb_new HB.out.1 (Nat.le_succ _) 0 _) (Nat.le_succ _) 1 _) (Nat.le_succ _) 2 _) (Nat.le_succ _) 3 _) (Nat.le_succ _) 4 _
set_option maxRecDepth 100000 in
set_option maxHeartbeats 8000000 in
theorem Own_int (w : World) : Calls Tryz.prog 56 #[tyI] w fun e w' => e = .returned (.tuple #[tyI, .int .i64 0]) ∧ KB F0 w w' := by
  obtain ⟨w0, rfl⟩ : ∃ w0, w0 = w := ⟨_, rfl⟩
  obtain ⟨hk, hb1, hb2⟩ := new2 w0 #[.int .u8 1, .bool false, .int .i64 0, .int .i64 0, .slice none 0 0] #[.int .u8 0, .bool false, .int .i64 0, .int .i64 0, .slice none 0 0] 36 36
  obtain ⟨W, hW⟩ : ∃ W, W = ((w0.alloc (.cells #[.int .u8 1, .bool false, .int .i64 0, .int .i64 0, .slice none 0 0] 36)).alloc (.cells #[.int .u8 0, .bool false, .int .i64 0, .int .i64 0, .slice none 0 0] 36)) := ⟨_, rfl⟩
  rw [← hW] at hk hb1 hb2
  have HB := Lib.hid (And.intro hk (And.intro hb1 hb2))
  have HW := Lib.hid hW
  have M := Lib.hid (fun (w : World) => tymay_int w)
  have O := Lib.hid (fun (w : World) => own_int w)
  unfold tyI at M O ⊢
  clear hk hb1 hb2 hW
  go_enter Tryz.func56, Tryz.ntmps56
  go_wp2_with fail
  rw [← HW.out]
  refine (M.out _).mono ?_
  rintro e w1 ⟨rfl, k1⟩
  have hb1 := k1.heap (fun x => x) HB.out.2.1
  have hb2 := k1.heap (fun x => x) HB.out.2.2
  have c0 : w1.cell? ⟨w0.heap.size, 0, none⟩ = some (.int .u8 1) := blk_cell hb1 0
  have c1 : w1.cell? ⟨w0.heap.size, 1, none⟩ = some (.bool false) := blk_cell hb1 1
  have c2 : w1.cell? ⟨w0.heap.size, 2, none⟩ = some (.int .i64 0) := blk_cell hb1 2
  have c3 : w1.cell? ⟨w0.heap.size, 3, none⟩ = some (.int .i64 0) := blk_cell hb1 3
  have c4 : w1.cell? ⟨w0.heap.size, 4, none⟩ = some (.slice none 0 0) := blk_cell hb1 4
  have H1 := Lib.hid (And.intro (HB.out.1.trans k1) hb2)
  clear k1 hb1 hb2
  go_wp2_with fail
  refine (O.out _).mono ?_
  rintro e w2 ⟨rfl, k2⟩
  have hb2 := k2.heap (fun x => x) H1.out.2
  have d0 : w2.cell? ⟨w0.heap.size + 1, 0, none⟩ = some (.int .u8 0) := blk_cell hb2 0
  have d1 : w2.cell? ⟨w0.heap.size + 1, 1, none⟩ = some (.bool false) := blk_cell hb2 1
  have d2 : w2.cell? ⟨w0.heap.size + 1, 2, none⟩ = some (.int .i64 0) := blk_cell hb2 2
  have d3 : w2.cell? ⟨w0.heap.size + 1, 3, none⟩ = some (.int .i64 0) := blk_cell hb2 3
  have d4 : w2.cell? ⟨w0.heap.size + 1, 4, none⟩ = some (.slice none 0 0) := blk_cell hb2 4
  have f0 := blk_frozen hb2 0
  have f1 := blk_frozen hb2 1
  have f2 := blk_frozen hb2 2
  have f3 := blk_frozen hb2 3
  have f4 := blk_frozen hb2 4
  have H2 := Lib.hid (And.intro (H1.out.1.trans k2) hb2)
  clear k2 hb2 c0 c1 c2 c3 c4
  go_wp2_with fail
  refine ret_ty2 (X := w0.heap.size + 1) rfl rfl rfl (setCell_blk (i := 4) (setCell_blk (i := 3) (setCell_blk (i := 2) (setCell_blk (i := 1) (setCell_blk (i := 0) H2.out.2 (.int .u8 1)) (.bool false)) (.int .i64 0)) (.int .i64 0)) (.slice none 0 0)) rfl ⟨rfl, ?_⟩
  exact kb_new (kb_new (kb_new (kb_new (kb_new H2.out.1 (Nat.le_succ _) 0 _) (Nat.le_succ _) 1 _) (Nat.le_succ _) 2 _) (Nat.le_succ _) 3 _) (Nat.le_succ _) 4 _
end Go.Proofs.YtpigppghcghpbaaGreatDoor

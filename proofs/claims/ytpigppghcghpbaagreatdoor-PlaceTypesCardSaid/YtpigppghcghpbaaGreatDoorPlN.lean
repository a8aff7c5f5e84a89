/- place.walk among the one local of awake. -/
import Derived.Test.YtpigppghcghpbaaGreatDoorMg23
namespace Go.Proofs.YtpigppghcghpbaaGreatDoor
open Go.RowKit

theorem new3 (w0 : World) (cs ds es : Array Value) (s t u : TypeId) : KB F0 w0 (((w0.alloc (.cells cs s)).alloc (.cells ds t)).alloc (.cells es u)) ∧
    (((w0.alloc (.cells cs s)).alloc (.cells ds t)).alloc (.cells es u)).heap[w0.heap.size]? = some (.cells cs s (0, 0)) ∧ (((w0.alloc (.cells cs s)).alloc (.cells ds t)).alloc (.cells es u)).heap[w0.heap.size + 1]? = some (.cells ds t (0, 0)) ∧
    (((w0.alloc (.cells cs s)).alloc (.cells ds t)).alloc (.cells es u)).heap[w0.heap.size + 1 + 1]? = some (.cells es u (0, 0)) ∧ (((w0.alloc (.cells cs s)).alloc (.cells ds t)).alloc (.cells es u)).heap.size = w0.heap.size + 3 := by
  obtain ⟨k, h1, h2⟩ := new2 w0 cs ds s t
  have hs1 : ((w0.alloc (.cells cs s)).alloc (.cells ds t)).heap.size = w0.heap.size + 1 + 1 := by simp
  exact ⟨k.alloc _, ((KB.refl F0 _).alloc _).heap (fun x => x) h1, ((KB.refl F0 _).alloc _).heap (fun x => x) h2, by rw [← hs1]; exact alloc_new _ _, by simp⟩
theorem ret_ty3 {fn : Func} {R : Ending → World → Prop} {a : Act} {w : World} {p q q2 X : Nat} {k : Nat} {m : Bool} {r s : Int} {v u u2 : Value} (h : fn.results = #[.cell p 36, .tmp q, .tmp q2]) (hp : a.tmps.getD p undef = .pointer (some ⟨X, 0, none⟩)) (hq : a.tmps.getD q undef = u) (hq2 : a.tmps.getD q2 undef = u2)
    (hc : w.heap[X]? = some (.cells #[.int .u8 k, .bool m, .int .i64 r, .int .i64 s, v] 36 (0, 0))) (hd : a.defers = []) (hR : R (.returned (.tuple #[.agg #[.int .u8 k, .bool m, .int .i64 r, .int .i64 s, v], u, u2])) w) : bodyPost Tryz.prog fn R .ret a w := by
  refine bodyPost_ret (v := .tuple #[.agg #[.int .u8 k, .bool m, .int .i64 r, .int .i64 s, v], u, u2]) ?_ hd hR
  have hp' : a.tmps[p]?.getD undef = .pointer (some ⟨X, 0, none⟩) := by simpa using hp
  have hq' : a.tmps[q]?.getD undef = u := by simpa using hq
  have hq2' : a.tmps[q2]?.getD undef = u2 := by simpa using hq2
  have c0 : w.cell? ⟨X, 0, none⟩ = some (.int .u8 k) := blk_cell hc 0
  have c1 : w.cell? ⟨X, 1, none⟩ = some (.bool m) := blk_cell hc 1
  have c2 : w.cell? ⟨X, 2, none⟩ = some (.int .i64 r) := blk_cell hc 2
  have c3 : w.cell? ⟨X, 3, none⟩ = some (.int .i64 s) := blk_cell hc 3
  have c4 : w.cell? ⟨X, 4, none⟩ = some v := blk_cell hc 4
  simp only [results, h]
  go_simp
def ty0c : Array Value := #[.int .u8 0, .bool false, .int .i64 0, .int .i64 0, .slice none 0 0]
/-- A block of a type laid over, cell by cell. -/
def set5 (w : World) (X : Nat) (v0 v1 v2 v3 v4 : Value) : World := ((((w.setCell ⟨X, 0, none⟩ v0).setCell ⟨X, 1, none⟩ v1).setCell ⟨X, 2, none⟩ v2).setCell ⟨X, 3, none⟩ v3).setCell ⟨X, 4, none⟩ v4
theorem set5_blk {w : World} {X : Nat} {a b c d e : Value} (h : w.heap[X]? = some (.cells #[a, b, c, d, e] 36 (0, 0))) (v0 v1 v2 v3 v4 : Value) : (set5 w X v0 v1 v2 v3 v4).heap[X]? = some (.cells #[v0, v1, v2, v3, v4] 36 (0, 0)) :=
  setCell_blk (i := 4) (setCell_blk (i := 3) (setCell_blk (i := 2) (setCell_blk (i := 1) (setCell_blk (i := 0) h v0) v1) v2) v3) v4
theorem set5_kb (w : World) (X : Nat) (v0 v1 v2 v3 v4 : Value) : KB (· = X) w (set5 w X v0 v1 v2 v3 v4) :=
  ((((kb_set w X 0 v0).trans (kb_set _ X 1 v1)).trans (kb_set _ X 2 v2)).trans (kb_set _ X 3 v3)).trans (kb_set _ X 4 v4)
theorem set5_new {w0 w : World} (h : KB F0 w0 w) {X : Nat} (hX : w0.heap.size ≤ X) (v0 v1 v2 v3 v4 : Value) : KB F0 w0 (set5 w X v0 v1 v2 v3 v4) :=
  kb_new (kb_new (kb_new (kb_new (kb_new h hX 0 _) hX 1 _) hX 2 _) hX 3 _) hX 4 _

set_option maxRecDepth 100000 in
set_option maxHeartbeats 8000000 in
theorem walk_bare (l g c d : Nat) (w : World) (h : RefTysAt w l g) :
    Calls Tryz.prog 36 #[.slice none 0 c, .slice (some ⟨l, 0, none⟩) 1 1, .agg #[.int .i64 0, .slice none 0 d]] w fun e w' => e = .returned (.tuple #[tyR g, .slice none 0 0, .bool true]) ∧ KB F0 w w' := by
  obtain ⟨w0, rfl⟩ : ∃ w0, w0 = w := ⟨_, rfl⟩
  obtain ⟨hk, hb1, hb2, hb3, -⟩ := new3 w0 #[.slice none 0 c] #[.int .i64 0, .slice none 0 d] ty0c 22 26 36
  unfold ty0c at hk hb1 hb2 hb3
  obtain ⟨W, hW⟩ : ∃ W, W = (((w0.alloc (.cells #[.slice none 0 c] 22)).alloc (.cells #[.int .i64 0, .slice none 0 d] 26)).alloc (.cells #[.int .u8 0, .bool false, .int .i64 0, .int .i64 0, .slice none 0 0] 36)) := ⟨_, rfl⟩
  rw [← hW] at hk hb1 hb2 hb3
  have x0 : W.cell? ⟨w0.heap.size, 0, none⟩ = some (.slice none 0 c) := blk_cell hb1 0
  have y0 : W.cell? ⟨w0.heap.size + 1, 0, none⟩ = some (.int .i64 0) := blk_cell hb2 0
  have y1 : W.cell? ⟨w0.heap.size + 1, 1, none⟩ = some (.slice none 0 d) := blk_cell hb2 1
  have HB := Lib.hid (And.intro hk (And.intro hb1 (And.intro hb2 hb3)))
  have CF := Lib.hid (fun (W : World) (hk : KB F0 w0 W) hs => containsTy_ref l g c w0.heap.size W (h.kb hk) hs)
  have HH := Lib.hid h
  have HW := Lib.hid hW
  rw [hW] at x0 y0 y1
  clear hk hb1 hb2 hb3 hW h
  unfold tyR
  go_enter Tryz.func36, Tryz.ntmps36
  go_wp2_with fail
  rw [← HW.out]
  refine (structs_nil c _).mono ?_
  rintro e w1 ⟨rfl, k1⟩
  have b1 := k1.heap (fun x => x) HB.out.2.1
  have H1 := Lib.hid (And.intro (HB.out.1.trans k1) (And.intro b1 (And.intro (k1.heap (fun x => x) HB.out.2.2.1) (k1.heap (fun x => x) HB.out.2.2.2))))
  have x0' : w1.cell? ⟨w0.heap.size, 0, none⟩ = some (.slice none 0 c) := blk_cell b1 0
  clear x0 y0 y1 k1 b1
  go_wp2_with fail
  refine (CF.out _ H1.out.1 H1.out.2.1).mono ?_
  rintro e w2 ⟨rfl, k2⟩
  have H2 := Lib.hid (And.intro (H1.out.1.trans k2) (And.intro (k2.heap (fun x => x) H1.out.2.2.1) (k2.heap (fun x => x) H1.out.2.2.2)))
  have hl := (HH.out.kb H2.out.1).1
  have l0 : w2.cell? ⟨l, 0, none⟩ = some (.int .u8 4) := blk_cell hl 0
  have l1 : w2.cell? ⟨l, 1, none⟩ = some (.bool true) := blk_cell hl 1
  have l2 : w2.cell? ⟨l, 2, none⟩ = some (.int .i64 (-1)) := blk_cell hl 2
  have l3 : w2.cell? ⟨l, 3, none⟩ = some (.int .i64 0) := blk_cell hl 3
  have l4 : w2.cell? ⟨l, 4, none⟩ = some (.slice (some ⟨g, 0, none⟩) 1 1) := blk_cell hl 4
  have y0 : w2.cell? ⟨w0.heap.size + 1, 0, none⟩ = some (.int .i64 0) := blk_cell H2.out.2.1 0
  have d0 : w2.cell? ⟨w0.heap.size + 1 + 1, 0, none⟩ = some (.int .u8 0) := blk_cell H2.out.2.2 0
  have d1 : w2.cell? ⟨w0.heap.size + 1 + 1, 1, none⟩ = some (.bool false) := blk_cell H2.out.2.2 1
  have d2 : w2.cell? ⟨w0.heap.size + 1 + 1, 2, none⟩ = some (.int .i64 0) := blk_cell H2.out.2.2 2
  have d3 : w2.cell? ⟨w0.heap.size + 1 + 1, 3, none⟩ = some (.int .i64 0) := blk_cell H2.out.2.2 3
  have d4 : w2.cell? ⟨w0.heap.size + 1 + 1, 4, none⟩ = some (.slice none 0 0) := blk_cell H2.out.2.2 4
  have f0 := blk_frozen H2.out.2.2 0
  have f1 := blk_frozen H2.out.2.2 1
  have f2 := blk_frozen H2.out.2.2 2
  have f3 := blk_frozen H2.out.2.2 3
  have f4 := blk_frozen H2.out.2.2 4
  clear k2 x0' hl
  go_upto_region 7 with fail
  obtain ⟨W3, hW3⟩ : ∃ W3, W3 = set5 w2 (w0.heap.size + 1 + 1) (.int .u8 4) (.bool true) (.int .i64 (-1)) (.int .i64 0) (.slice (some ⟨g, 0, none⟩) 1 1) := ⟨_, rfl⟩
  have H3 := Lib.hid (And.intro (set5_new H2.out.1 (show w0.heap.size ≤ w0.heap.size + 1 + 1 by omega) (.int .u8 4) (.bool true) (.int .i64 (-1)) (.int .i64 0) (.slice (some ⟨g, 0, none⟩) 1 1))
    (And.intro ((set5_kb w2 (w0.heap.size + 1 + 1) (.int .u8 4) (.bool true) (.int .i64 (-1)) (.int .i64 0) (.slice (some ⟨g, 0, none⟩) 1 1)).heap (by omega) H2.out.2.1) (set5_blk H2.out.2.2 (.int .u8 4) (.bool true) (.int .i64 (-1)) (.int .i64 0) (.slice (some ⟨g, 0, none⟩) 1 1))))
  rw [← hW3] at H3
  rw [show ((((w2.setCell ⟨w0.heap.size + 1 + 1, 0, none⟩ (.int .u8 4)).setCell ⟨w0.heap.size + 1 + 1, 1, none⟩ (.bool true)).setCell ⟨w0.heap.size + 1 + 1, 2, none⟩ (.int .i64 (-1))).setCell ⟨w0.heap.size + 1 + 1, 3, none⟩ (.int .i64 0)).setCell ⟨w0.heap.size + 1 + 1, 4, none⟩ (.slice (some ⟨g, 0, none⟩) 1 1) = W3 from hW3.symm]
  clear hW3 l0 l1 l2 l3 l4 y0 d0 d1 d2 d3 d4 f0 f1 f2 f3 f4
  have y1 : W3.cell? ⟨w0.heap.size + 1, 1, none⟩ = some (.slice none 0 d) := blk_cell H3.out.2.1 1
  go_wp2_with fail
  clear y1
  go_loopw [7, 52] (fun gv kv wr => gv = .slice none 0 0 ∧ kv = .int .i64 0 ∧ wr = W3) (fun _ _ _ => 0)
  case atStart => exact ⟨rfl, rfl, rfl⟩
  case round =>
    obtain ⟨rfl, rfl, rfl⟩ := hrel
    have d0 : wr.cell? ⟨w0.heap.size + 1 + 1, 0, none⟩ = some (.int .u8 4) := blk_cell H3.out.2.2 0
    have d1 : wr.cell? ⟨w0.heap.size + 1 + 1, 1, none⟩ = some (.bool true) := blk_cell H3.out.2.2 1
    have d2 : wr.cell? ⟨w0.heap.size + 1 + 1, 2, none⟩ = some (.int .i64 (-1)) := blk_cell H3.out.2.2 2
    have d3 : wr.cell? ⟨w0.heap.size + 1 + 1, 3, none⟩ = some (.int .i64 0) := blk_cell H3.out.2.2 3
    have d4 : wr.cell? ⟨w0.heap.size + 1 + 1, 4, none⟩ = some (.slice (some ⟨g, 0, none⟩) 1 1) := blk_cell H3.out.2.2 4
    have f0 := blk_frozen H3.out.2.2 0
    have f1 := blk_frozen H3.out.2.2 1
    have f2 := blk_frozen H3.out.2.2 2
    have f3 := blk_frozen H3.out.2.2 3
    have f4 := blk_frozen H3.out.2.2 4
    go_wp2_with fail
    refine ret_ty3 (X := w0.heap.size + 1 + 1) rfl rfl rfl rfl (set5_blk H3.out.2.2 (.int .u8 4) (.bool true) (.int .i64 (-1)) (.int .i64 0) (.slice (some ⟨g, 0, none⟩) 1 1)) rfl ⟨rfl, ?_⟩
    exact set5_new H3.out.1 (show w0.heap.size ≤ w0.heap.size + 1 + 1 by omega) _ _ _ _ _
/-- The one step. -/
def StarAt (w : World) (q : Nat) : Prop := w.cell? ⟨q, 0, none⟩ = some (.int .i64 (-1))
set_option maxRecDepth 100000 in
set_option maxHeartbeats 8000000 in
theorem walk_star (l g c d q : Nat) (w : World) (h : RefTysAt w l g) (hq : StarAt w q) :
    Calls Tryz.prog 36 #[.slice none 0 c, .slice (some ⟨l, 0, none⟩) 1 1, .agg #[.int .i64 0, .slice (some ⟨q, 0, none⟩) 1 d]] w fun e w' => ∃ v, e = .returned (.tuple #[tyI, v, .bool true]) ∧ w'.ownsRow w.heap.size 3 1 v 1 [.int .i64 2] ∧ KB F0 w w' := by
  obtain ⟨w0, rfl⟩ : ∃ w0, w0 = w := ⟨_, rfl⟩
  obtain ⟨hk, hb1, hb2, hb3, -⟩ := new3 w0 #[.slice none 0 c] #[.int .i64 0, .slice (some ⟨q, 0, none⟩) 1 d] ty0c 22 26 36
  unfold ty0c at hk hb1 hb2 hb3
  obtain ⟨W, hW⟩ : ∃ W, W = (((w0.alloc (.cells #[.slice none 0 c] 22)).alloc (.cells #[.int .i64 0, .slice (some ⟨q, 0, none⟩) 1 d] 26)).alloc (.cells #[.int .u8 0, .bool false, .int .i64 0, .int .i64 0, .slice none 0 0] 36)) := ⟨_, rfl⟩
  rw [← hW] at hk hb1 hb2 hb3
  have x0 : W.cell? ⟨w0.heap.size, 0, none⟩ = some (.slice none 0 c) := blk_cell hb1 0
  have y0 : W.cell? ⟨w0.heap.size + 1, 0, none⟩ = some (.int .i64 0) := blk_cell hb2 0
  have y1 : W.cell? ⟨w0.heap.size + 1, 1, none⟩ = some (.slice (some ⟨q, 0, none⟩) 1 d) := blk_cell hb2 1
  have HB := Lib.hid (And.intro hk (And.intro hb1 (And.intro hb2 hb3)))
  have CF := Lib.hid (fun (W : World) (hk : KB F0 w0 W) hs => containsTy_ref l g c w0.heap.size W (h.kb hk) hs)
  have HH := Lib.hid (And.intro h hq)
  have HW := Lib.hid hW
  rw [hW] at x0 y0 y1
  clear hk hb1 hb2 hb3 hW h hq
  unfold tyI
  go_enter Tryz.func36, Tryz.ntmps36
  go_wp2_with fail
  rw [← HW.out]
  refine (structs_nil c _).mono ?_
  rintro e w1 ⟨rfl, k1⟩
  have b1 := k1.heap (fun x => x) HB.out.2.1
  have H1 := Lib.hid (And.intro (HB.out.1.trans k1) (And.intro b1 (And.intro (k1.heap (fun x => x) HB.out.2.2.1) (k1.heap (fun x => x) HB.out.2.2.2))))
  have x0' : w1.cell? ⟨w0.heap.size, 0, none⟩ = some (.slice none 0 c) := blk_cell b1 0
  clear x0 y0 y1 k1 b1
  go_wp2_with fail
  refine (CF.out _ H1.out.1 H1.out.2.1).mono ?_
  rintro e w2 ⟨rfl, k2⟩
  have H2 := Lib.hid (And.intro (H1.out.1.trans k2) (And.intro (k2.heap (fun x => x) H1.out.2.2.1) (k2.heap (fun x => x) H1.out.2.2.2)))
  have hl := (HH.out.1.kb H2.out.1).1
  have l0 : w2.cell? ⟨l, 0, none⟩ = some (.int .u8 4) := blk_cell hl 0
  have l1 : w2.cell? ⟨l, 1, none⟩ = some (.bool true) := blk_cell hl 1
  have l2 : w2.cell? ⟨l, 2, none⟩ = some (.int .i64 (-1)) := blk_cell hl 2
  have l3 : w2.cell? ⟨l, 3, none⟩ = some (.int .i64 0) := blk_cell hl 3
  have l4 : w2.cell? ⟨l, 4, none⟩ = some (.slice (some ⟨g, 0, none⟩) 1 1) := blk_cell hl 4
  have y0 : w2.cell? ⟨w0.heap.size + 1, 0, none⟩ = some (.int .i64 0) := blk_cell H2.out.2.1 0
  have d0 : w2.cell? ⟨w0.heap.size + 1 + 1, 0, none⟩ = some (.int .u8 0) := blk_cell H2.out.2.2 0
  have d1 : w2.cell? ⟨w0.heap.size + 1 + 1, 1, none⟩ = some (.bool false) := blk_cell H2.out.2.2 1
  have d2 : w2.cell? ⟨w0.heap.size + 1 + 1, 2, none⟩ = some (.int .i64 0) := blk_cell H2.out.2.2 2
  have d3 : w2.cell? ⟨w0.heap.size + 1 + 1, 3, none⟩ = some (.int .i64 0) := blk_cell H2.out.2.2 3
  have d4 : w2.cell? ⟨w0.heap.size + 1 + 1, 4, none⟩ = some (.slice none 0 0) := blk_cell H2.out.2.2 4
  have f0 := blk_frozen H2.out.2.2 0
  have f1 := blk_frozen H2.out.2.2 1
  have f2 := blk_frozen H2.out.2.2 2
  have f3 := blk_frozen H2.out.2.2 3
  have f4 := blk_frozen H2.out.2.2 4
  clear k2 x0' hl
  go_upto_region 7 with fail
  obtain ⟨W3, hW3⟩ : ∃ W3, W3 = set5 w2 (w0.heap.size + 1 + 1) (.int .u8 4) (.bool true) (.int .i64 (-1)) (.int .i64 0) (.slice (some ⟨g, 0, none⟩) 1 1) := ⟨_, rfl⟩
  have H3 := Lib.hid (And.intro (set5_new H2.out.1 (show w0.heap.size ≤ w0.heap.size + 1 + 1 by omega) (.int .u8 4) (.bool true) (.int .i64 (-1)) (.int .i64 0) (.slice (some ⟨g, 0, none⟩) 1 1))
    (And.intro ((set5_kb w2 (w0.heap.size + 1 + 1) (.int .u8 4) (.bool true) (.int .i64 (-1)) (.int .i64 0) (.slice (some ⟨g, 0, none⟩) 1 1)).heap (by omega) H2.out.2.1) (set5_blk H2.out.2.2 (.int .u8 4) (.bool true) (.int .i64 (-1)) (.int .i64 0) (.slice (some ⟨g, 0, none⟩) 1 1))))
  rw [← hW3] at H3
  rw [show ((((w2.setCell ⟨w0.heap.size + 1 + 1, 0, none⟩ (.int .u8 4)).setCell ⟨w0.heap.size + 1 + 1, 1, none⟩ (.bool true)).setCell ⟨w0.heap.size + 1 + 1, 2, none⟩ (.int .i64 (-1))).setCell ⟨w0.heap.size + 1 + 1, 3, none⟩ (.int .i64 0)).setCell ⟨w0.heap.size + 1 + 1, 4, none⟩ (.slice (some ⟨g, 0, none⟩) 1 1) = W3 from hW3.symm]
  clear hW3 l0 l1 l2 l3 l4 y0 d0 d1 d2 d3 d4 f0 f1 f2 f3 f4
  have y1 : W3.cell? ⟨w0.heap.size + 1, 1, none⟩ = some (.slice (some ⟨q, 0, none⟩) 1 d) := blk_cell H3.out.2.1 1
  go_wp2_with fail
  clear y1
  go_loopw [7, 52] (fun gv kv wr => (gv = .slice none 0 0 ∧ kv = .int .i64 0 ∧ wr = W3) ∨ (kv = .int .i64 1 ∧ Hid (wr.ownsRow w0.heap.size 3 1 gv 1 [.int .i64 2] ∧ KB F0 w0 wr ∧ wr.heap[w0.heap.size + 1 + 1]? = some (.cells #[.int .u8 1, .bool false, .int .i64 0, .int .i64 0, .slice none 0 0] 36 (0, 0))))) (fun _ kv _ => 1 - (intOf kv).toNat)
  case atStart => exact Or.inl ⟨rfl, rfl, rfl⟩
  case round =>
    rcases hrel with ⟨rfl, rfl, rfl⟩ | ⟨rfl, hst⟩
    · have s0 := H3.out.1.cell (p := ⟨q, 0, none⟩) (fun x => x) HH.out.2
      have d0 : wr.cell? ⟨w0.heap.size + 1 + 1, 0, none⟩ = some (.int .u8 4) := blk_cell H3.out.2.2 0
      have d1 : wr.cell? ⟨w0.heap.size + 1 + 1, 1, none⟩ = some (.bool true) := blk_cell H3.out.2.2 1
      have d2 : wr.cell? ⟨w0.heap.size + 1 + 1, 2, none⟩ = some (.int .i64 (-1)) := blk_cell H3.out.2.2 2
      have d3 : wr.cell? ⟨w0.heap.size + 1 + 1, 3, none⟩ = some (.int .i64 0) := blk_cell H3.out.2.2 3
      have d4 : wr.cell? ⟨w0.heap.size + 1 + 1, 4, none⟩ = some (.slice (some ⟨g, 0, none⟩) 1 1) := blk_cell H3.out.2.2 4
      have f0 := blk_frozen (H3.out.2.2) 0
      have f1 := blk_frozen (H3.out.2.2) 1
      have f2 := blk_frozen (H3.out.2.2) 2
      have f3 := blk_frozen (H3.out.2.2) 3
      have f4 := blk_frozen (H3.out.2.2) 4
      go_wp2_with (at_builtin; refine Stopped.out ?_)
      refine ⟨?_⟩
      have hnil : (wr.alloc (.cells #[.int .i64 2] 3)).ownsRow wr.heap.size 3 1 (.slice none 0 0) 0 [] := World.ownsRow_nil _ _ _ _
      have ka := (KB.refl F0 wr).alloc (.cells #[.int .i64 2] 3)
      refine app1 37 3 wr.heap.size (.int .i64 2) Tryz.infoInt Tryz.underlying37 (by decide) hnil rfl rfl rfl rfl (blk_cell (alloc_new _ _) 0) rfl (by decide) (by decide) ka.size ?_
      intro v' w' hown hgr
      have kw := ka.grown hgr (own_ge hnil (Nat.le_refl _))
      have hown1 := own_base hown (show w0.heap.size ≤ wr.heap.size from H3.out.1.size)
      have H4 := Lib.hid (And.intro hown1 (And.intro (H3.out.1.trans kw) (kw.heap (fun x => x) H3.out.2.2)))
      have hne : v'.ownBlock ≠ some (w0.heap.size + 1 + 1) := fun e2 => by
        obtain ⟨c1, h1, -⟩ := own_block hown1 e2
        rw [H4.out.2.2] at h1
        simp only [Option.some.injEq, Obj.cells.injEq] at h1
        exact absurd h1.2.1 (by decide)
      have Hne := Lib.hid hne
      clear hown hown1 hgr hnil ka kw hne d0 d1 d2 d3 d4 f0 f1 f2 f3 f4 s0
      have hg := (HH.out.1.kb H4.out.2.1).2
      have g0 : w'.cell? ⟨g, 0, none⟩ = some (.int .u8 1) := blk_cell hg 0
      have g1 : w'.cell? ⟨g, 1, none⟩ = some (.bool false) := blk_cell hg 1
      have g2 : w'.cell? ⟨g, 2, none⟩ = some (.int .i64 0) := blk_cell hg 2
      have g3 : w'.cell? ⟨g, 3, none⟩ = some (.int .i64 0) := blk_cell hg 3
      have g4 : w'.cell? ⟨g, 4, none⟩ = some (.slice none 0 0) := blk_cell hg 4
      have d0 : w'.cell? ⟨w0.heap.size + 1 + 1, 0, none⟩ = some (.int .u8 4) := blk_cell H4.out.2.2 0
      have d1 : w'.cell? ⟨w0.heap.size + 1 + 1, 1, none⟩ = some (.bool true) := blk_cell H4.out.2.2 1
      have d2 : w'.cell? ⟨w0.heap.size + 1 + 1, 2, none⟩ = some (.int .i64 (-1)) := blk_cell H4.out.2.2 2
      have d3 : w'.cell? ⟨w0.heap.size + 1 + 1, 3, none⟩ = some (.int .i64 0) := blk_cell H4.out.2.2 3
      have d4 : w'.cell? ⟨w0.heap.size + 1 + 1, 4, none⟩ = some (.slice (some ⟨g, 0, none⟩) 1 1) := blk_cell H4.out.2.2 4
      have f0 := blk_frozen (H4.out.2.2) 0
      have f1 := blk_frozen (H4.out.2.2) 1
      have f2 := blk_frozen (H4.out.2.2) 2
      have f3 := blk_frozen (H4.out.2.2) 3
      have f4 := blk_frozen (H4.out.2.2) 4
      clear hg
      go_wp2_with fail
      refine ⟨Or.inr ⟨rfl, Lib.hid ⟨?_, set5_new H4.out.2.1 (show w0.heap.size ≤ w0.heap.size + 1 + 1 by omega) _ _ _ _ _, set5_blk H4.out.2.2 (.int .u8 1) (.bool false) (.int .i64 0) (.int .i64 0) (.slice none 0 0)⟩⟩, by simp [intOf]⟩
      exact own_kb H4.out.1 (set5_kb w' (w0.heap.size + 1 + 1) _ _ _ _ _) (fun g e1 e2 => Hne.out (by rw [e1, e2]))
    · have d0 : wr.cell? ⟨w0.heap.size + 1 + 1, 0, none⟩ = some (.int .u8 1) := blk_cell hst.out.2.2 0
      have d1 : wr.cell? ⟨w0.heap.size + 1 + 1, 1, none⟩ = some (.bool false) := blk_cell hst.out.2.2 1
      have d2 : wr.cell? ⟨w0.heap.size + 1 + 1, 2, none⟩ = some (.int .i64 0) := blk_cell hst.out.2.2 2
      have d3 : wr.cell? ⟨w0.heap.size + 1 + 1, 3, none⟩ = some (.int .i64 0) := blk_cell hst.out.2.2 3
      have d4 : wr.cell? ⟨w0.heap.size + 1 + 1, 4, none⟩ = some (.slice none 0 0) := blk_cell hst.out.2.2 4
      have f0 := blk_frozen (hst.out.2.2) 0
      have f1 := blk_frozen (hst.out.2.2) 1
      have f2 := blk_frozen (hst.out.2.2) 2
      have f3 := blk_frozen (hst.out.2.2) 3
      have f4 := blk_frozen (hst.out.2.2) 4
      have hne : u7.ownBlock ≠ some (w0.heap.size + 1 + 1) := fun e2 => by
        obtain ⟨c1, h1, -⟩ := own_block hst.out.1 e2
        rw [hst.out.2.2] at h1
        simp only [Option.some.injEq, Obj.cells.injEq] at h1
        exact absurd h1.2.1 (by decide)
      have Hne := Lib.hid hne
      clear hne
      go_wp2_with fail
      refine ret_ty3 (X := w0.heap.size + 1 + 1) rfl rfl rfl rfl (set5_blk hst.out.2.2 (.int .u8 1) (.bool false) (.int .i64 0) (.int .i64 0) (.slice none 0 0)) rfl ⟨_, rfl, ?_, ?_⟩
      · exact own_kb hst.out.1 (set5_kb wr (w0.heap.size + 1 + 1) _ _ _ _ _) (fun g e1 e2 => Hne.out ((show u7.ownBlock = some g from e1).trans (congrArg some e2)))
      · exact set5_new hst.out.2.1 (show w0.heap.size ≤ w0.heap.size + 1 + 1 by omega) _ _ _ _ _
end Go.Proofs.YtpigppghcghpbaaGreatDoor

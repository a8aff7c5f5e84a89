/- types.own, types.Own. -/
import Derived.Test.YtpigppghcghpbaaGreatDoorMg31
import Derived.Test.YtpigppghcghpbaaGreatDoorPwD
namespace Go.Proofs.YtpigppghcghpbaaGreatDoor
open Go.RowKit

theorem ret_ty1 {fn : Func} {R : Ending → World → Prop} {a : Act} {w : World} {p X : Nat} {k : Int} {m : Bool} {r s : Int} {v : Value} (h : fn.results = #[.cell p 36]) (hp : a.tmps.getD p undef = .pointer (some ⟨X, 0, none⟩))
    (hc : w.heap[X]? = some (.cells #[.int .u8 k, .bool m, .int .i64 r, .int .i64 s, v] 36 (0, 0))) (hd : a.defers = []) (hR : R (.returned (.agg #[.int .u8 k, .bool m, .int .i64 r, .int .i64 s, v])) w) : bodyPost Tryz.prog fn R .ret a w := by
  refine bodyPost_ret (v := .agg #[.int .u8 k, .bool m, .int .i64 r, .int .i64 s, v]) ?_ hd hR
  have hp' : a.tmps[p]?.getD undef = .pointer (some ⟨X, 0, none⟩) := by simpa using hp
  have c0 : w.cell? ⟨X, 0, none⟩ = some (.int .u8 k) := blk_cell hc 0
  have c1 : w.cell? ⟨X, 1, none⟩ = some (.bool m) := blk_cell hc 1
  have c2 : w.cell? ⟨X, 2, none⟩ = some (.int .i64 r) := blk_cell hc 2
  have c3 : w.cell? ⟨X, 3, none⟩ = some (.int .i64 s) := blk_cell hc 3
  have c4 : w.cell? ⟨X, 4, none⟩ = some v := blk_cell hc 4
  simp only [results, h]
  go_simp
/-- The types in a type lie in memory of its own, from block B on. -/
def OwnT : Nat → World → Nat → Ty → Option Addr → Nat → Prop
  | 0, _, _, t, a, c => t.of.length = 0 ∧ a = none ∧ c = 0
  | n + 1, w, B, t, a, c => (t.of.length = 0 ∧ a = none ∧ c = 0) ∨ (t.of.length = 1 ∧ ∃ g a' c', a = some ⟨g, 0, none⟩ ∧ c = 1 ∧ B ≤ g ∧ w.heap[g]? = some (tyObj (in0 t) a' c') ∧ OwnT n w B (in0 t) a' c')
theorem OwnT.kb {S : Nat → Prop} {w w' : World} {B : Nat} (hk : KB S w w') (hS : ∀ k, B ≤ k → k < w.heap.size → ¬ S k) : ∀ {n : Nat} {t : Ty} {a : Option Addr} {c : Nat}, OwnT n w B t a c → OwnT n w' B t a c := by
  intro n
  induction n with
  | zero => intro t a c h; exact h
  | succ n ih =>
    intro t a c h
    rcases h with h | ⟨h1, g, a', c', h2, h3, h4, h5, h6⟩
    · exact Or.inl h
    · exact Or.inr ⟨h1, g, a', c', h2, h3, h4, hk.heap (hS g h4 (heap_lt h5)) h5, ih h6⟩
theorem OwnT.base {w : World} {B B' : Nat} (hB : B' ≤ B) : ∀ {n : Nat} {t : Ty} {a : Option Addr} {c : Nat}, OwnT n w B t a c → OwnT n w B' t a c := by
  intro n
  induction n with
  | zero => intro t a c h; exact h
  | succ n ih =>
    intro t a c h
    rcases h with h | ⟨h1, g, a', c', h2, h3, h4, h5, h6⟩
    · exact Or.inl h
    · exact Or.inr ⟨h1, g, a', c', h2, h3, by omega, h5, ih h6⟩
theorem OwnT.none {w : World} {B n : Nat} {t : Ty} (h : t.of.length = 0) : OwnT n w B t none 0 := by
  cases n with
  | zero => exact ⟨h, rfl, rfl⟩
  | succ n => exact Or.inl ⟨h, rfl, rfl⟩
theorem OwnT.at {w : World} {B : Nat} : ∀ {n : Nat} {t : Ty} {a : Option Addr} {c : Nat}, OwnT n w B t a c → TyAt (n + 1) w t a c := by
  intro n
  induction n with
  | zero =>
    intro t a c h
    exact ⟨by have := h.1; omega, fun i hi => by have := h.1; omega⟩
  | succ n ih =>
    intro t a c h
    rcases h with h | ⟨h1, g, a', c', h2, h3, h4, h5, h6⟩
    · exact ⟨by have := h.1; omega, fun i hi => by have := h.1; omega⟩
    · refine ⟨by omega, fun i hi => ?_⟩
      obtain rfl : i = 0 := by omega
      have hc := TyCells.of_block h5
      refine ⟨g, 0, a', c', h2, ?_, ih h6⟩
      rw [Nat.zero_mul, Nat.add_zero]
      exact hc
/-- What own answers. -/
def OwnEnd (n : Nat) (t : Ty) (w : World) (e : Ending) (w' : World) : Prop := KB F0 w w' ∧ ∃ ga gc, e = .returned (tyV t ga gc) ∧ OwnT n w' w.heap.size t ga gc
set_option maxRecDepth 100000 in
set_option maxHeartbeats 16000000 in
theorem own_zero (t : Ty) (a : Option Addr) (c : Nat) (w : World) (h0 : t.of.length = 0) :
    Calls Tryz.prog 73 #[tyV t a c] w fun e w' => e = .returned (tyV t none 0) ∧ KB F0 w w' := by
  obtain ⟨w0, rfl⟩ : ∃ w0, w0 = w := ⟨_, rfl⟩
  unfold tyV
  rw [h0]
  clear h0
  obtain ⟨hk, hb1, hb2⟩ := new2 w0 #[.int .u8 t.k, .bool t.m, .int .i64 t.r, .int .i64 t.s, .slice a 0 c] ty0c 36 36
  unfold ty0c at hk hb1 hb2
  obtain ⟨W, hW⟩ : ∃ W, W = ((w0.alloc (.cells #[.int .u8 t.k, .bool t.m, .int .i64 t.r, .int .i64 t.s, .slice a 0 c] 36)).alloc (.cells #[.int .u8 0, .bool false, .int .i64 0, .int .i64 0, .slice none 0 0] 36)) := ⟨_, rfl⟩
  rw [← hW] at hk hb1 hb2
  have a0 : W.cell? ⟨w0.heap.size, 0, none⟩ = some (.int .u8 t.k) := blk_cell hb1 0
  have a1 : W.cell? ⟨w0.heap.size, 1, none⟩ = some (.bool t.m) := blk_cell hb1 1
  have a2 : W.cell? ⟨w0.heap.size, 2, none⟩ = some (.int .i64 t.r) := blk_cell hb1 2
  have a3 : W.cell? ⟨w0.heap.size, 3, none⟩ = some (.int .i64 t.s) := blk_cell hb1 3
  have a4 : W.cell? ⟨w0.heap.size, 4, none⟩ = some (.slice a 0 c) := blk_cell hb1 4
  have b0 : W.cell? ⟨w0.heap.size + 1, 0, none⟩ = some (.int .u8 0) := blk_cell hb2 0
  have b1 : W.cell? ⟨w0.heap.size + 1, 1, none⟩ = some (.bool false) := blk_cell hb2 1
  have b2 : W.cell? ⟨w0.heap.size + 1, 2, none⟩ = some (.int .i64 0) := blk_cell hb2 2
  have b3 : W.cell? ⟨w0.heap.size + 1, 3, none⟩ = some (.int .i64 0) := blk_cell hb2 3
  have b4 : W.cell? ⟨w0.heap.size + 1, 4, none⟩ = some (.slice none 0 0) := blk_cell hb2 4
  have f4 := blk_frozen hb1 4
  have g0 := blk_frozen hb2 0
  have g1 := blk_frozen hb2 1
  have g2 := blk_frozen hb2 2
  have g3 := blk_frozen hb2 3
  have g4 := blk_frozen hb2 4
  have HB := Lib.hid (And.intro hk (And.intro hb1 hb2))
  have HW := Lib.hid hW
  generalize t.k = k at *
  generalize t.m = m at *
  generalize t.r = rg at *
  generalize t.s = st at *
  clear hk hb1 hb2 hW
  go_enter Tryz.func73, Tryz.ntmps73
  go_upto_region 1 with fail
  rw [← HW.out]
  go_wp2_with fail
  have k1 := kb_set W w0.heap.size 4 (.slice none 0 0)
  refine ret_ty1 (X := w0.heap.size + 1) rfl rfl (set5_blk (k1.heap (by omega) HB.out.2.2) (.int .u8 k) (.bool m) (.int .i64 rg) (.int .i64 st) (.slice none 0 0)) rfl ?_
  exact ⟨rfl, set5_new (HB.out.1.oldS k1 (fun k hk e => by omega)) (show w0.heap.size ≤ w0.heap.size + 1 by omega) _ _ _ _ _⟩
set_option maxRecDepth 100000 in
set_option maxHeartbeats 16000000 in
theorem own_one (t : Ty) (ab ao : Nat) (a' : Option Addr) (c' c : Nat) (w : World) (h1 : t.of.length = 1) (hc : 1 ≤ c) (hca : TyCells w ab ao (in0 t) a' c') (n : Nat)
    (rec : ∀ V, KB F0 w V → Calls Tryz.prog 73 #[tyV (in0 t) a' c'] V (OwnEnd n (in0 t) V)) :
    Calls Tryz.prog 73 #[tyV t (some ⟨ab, ao, none⟩) c] w (OwnEnd (n + 1) t w) := by
  obtain ⟨w0, rfl⟩ : ∃ w0, w0 = w := ⟨_, rfl⟩
  have HE : Hid (∀ e w' , (KB F0 w0 w' ∧ ∃ g a' c', e = .returned (.agg #[.int .u8 t.k, .bool t.m, .int .i64 t.r, .int .i64 t.s, .slice (some ⟨g, 0, none⟩) 1 1]) ∧ w0.heap.size ≤ g ∧ w'.heap[g]? = some (tyObj (in0 t) a' c') ∧ OwnT n w' w0.heap.size (in0 t) a' c') → OwnEnd (n + 1) t w0 e w') := Lib.hid (fun e w' h => by
    obtain ⟨hk, g, a', c', e1, h2, h3, h4⟩ := h
    refine ⟨hk, some ⟨g, 0, none⟩, 1, ?_, Or.inr ⟨h1, g, a', c', rfl, rfl, h2, h3, h4⟩⟩
    rw [e1]; unfold tyV; rw [h1])
  generalize OwnEnd (n + 1) t w0 = EE at HE ⊢
  have RC := Lib.hid rec
  clear rec
  unfold tyV at RC ⊢
  rw [h1]
  clear h1
  obtain ⟨hk, hb1, hb2⟩ := new2 w0 #[.int .u8 t.k, .bool t.m, .int .i64 t.r, .int .i64 t.s, .slice (some ⟨ab, ao, none⟩) 1 c] ty0c 36 36
  unfold ty0c at hk hb1 hb2
  obtain ⟨W, hW⟩ : ∃ W, W = ((w0.alloc (.cells #[.int .u8 t.k, .bool t.m, .int .i64 t.r, .int .i64 t.s, .slice (some ⟨ab, ao, none⟩) 1 c] 36)).alloc (.cells #[.int .u8 0, .bool false, .int .i64 0, .int .i64 0, .slice none 0 0] 36)) := ⟨_, rfl⟩
  rw [← hW] at hk hb1 hb2
  have a0 : W.cell? ⟨w0.heap.size, 0, none⟩ = some (.int .u8 t.k) := blk_cell hb1 0
  have a1 : W.cell? ⟨w0.heap.size, 1, none⟩ = some (.bool t.m) := blk_cell hb1 1
  have a2 : W.cell? ⟨w0.heap.size, 2, none⟩ = some (.int .i64 t.r) := blk_cell hb1 2
  have a3 : W.cell? ⟨w0.heap.size, 3, none⟩ = some (.int .i64 t.s) := blk_cell hb1 3
  have a4 : W.cell? ⟨w0.heap.size, 4, none⟩ = some (.slice (some ⟨ab, ao, none⟩) 1 c) := blk_cell hb1 4
  have b0 : W.cell? ⟨w0.heap.size + 1, 0, none⟩ = some (.int .u8 0) := blk_cell hb2 0
  have b1 : W.cell? ⟨w0.heap.size + 1, 1, none⟩ = some (.bool false) := blk_cell hb2 1
  have b2 : W.cell? ⟨w0.heap.size + 1, 2, none⟩ = some (.int .i64 0) := blk_cell hb2 2
  have b3 : W.cell? ⟨w0.heap.size + 1, 3, none⟩ = some (.int .i64 0) := blk_cell hb2 3
  have b4 : W.cell? ⟨w0.heap.size + 1, 4, none⟩ = some (.slice none 0 0) := blk_cell hb2 4
  have f4 := blk_frozen hb1 4
  have g0 := blk_frozen hb2 0
  have g1 := blk_frozen hb2 1
  have g2 := blk_frozen hb2 2
  have g3 := blk_frozen hb2 3
  have g4 := blk_frozen hb2 4
  have HB := Lib.hid (And.intro hk (And.intro hb1 hb2))
  have HW := Lib.hid hW
  obtain ⟨i0, i1, i2, i3, i4⟩ := hca.kbF hk
  have hcI : (1 : Int) ≤ (c : Int) := by omega
  generalize in0 t = u at *
  generalize t.k = k at *
  generalize t.m = m at *
  generalize t.r = rg at *
  generalize t.s = st at *
  clear hk hb1 hb2 hW
  go_enter Tryz.func73, Tryz.ntmps73
  go_upto_region 1 with fail
  rw [← HW.out]
  go_wp2_with fail
  refine (RC.out _ HB.out.1).mono ?_
  rintro e w2 ⟨k2, ga, gc, rfl, ho⟩
  unfold tyV
  have ka := (KB.refl F0 w2).alloc (.cells #[.int .u8 u.k, .bool u.m, .int .i64 u.r, .int .i64 u.s, .slice ga u.of.length gc] 36)
  have hg := alloc_new w2 (.cells #[.int .u8 u.k, .bool u.m, .int .i64 u.r, .int .i64 u.s, .slice ga u.of.length gc] 36)
  have h1 := ka.heap (fun x => x) (k2.heap (fun x => x) HB.out.2.1)
  have h2 := ka.heap (fun x => x) (k2.heap (fun x => x) HB.out.2.2)
  have hsz : w0.heap.size + 1 < w2.heap.size := heap_lt (k2.heap (fun x => x) HB.out.2.2)
  have K2 := Lib.hid (And.intro k2 (And.intro ho (And.intro ka (And.intro hg (And.intro h1 h2)))))
  clear a0 a1 a2 a3 a4 b0 b1 b2 b3 b4 f4 g0 g1 g2 g3 g4
  have f4 := blk_frozen h1 4
  have a4 := blk_cell h1 4
  simp only [List.getElem?_toArray, List.getElem?_cons_zero, List.getElem?_cons_succ] at a4
  have a0 := blk_cell h1 0
  simp only [List.getElem?_toArray, List.getElem?_cons_zero] at a0
  have a1 := blk_cell h1 1
  simp only [List.getElem?_toArray, List.getElem?_cons_zero, List.getElem?_cons_succ] at a1
  have a2 := blk_cell h1 2
  simp only [List.getElem?_toArray, List.getElem?_cons_zero, List.getElem?_cons_succ] at a2
  have a3 := blk_cell h1 3
  simp only [List.getElem?_toArray, List.getElem?_cons_zero, List.getElem?_cons_succ] at a3
  have b0 := blk_cell h2 0
  have b1 := blk_cell h2 1
  have b2 := blk_cell h2 2
  have b3 := blk_cell h2 3
  have b4 := blk_cell h2 4
  simp only [List.getElem?_toArray, List.getElem?_cons_zero, List.getElem?_cons_succ] at b0 b1 b2 b3 b4
  have g0 := blk_frozen h2 0
  have g1 := blk_frozen h2 1
  have g2 := blk_frozen h2 2
  have g3 := blk_frozen h2 3
  have g4 := blk_frozen h2 4
  clear k2 ho ka hg h1 h2
  go_wp2_with fail
  obtain ⟨k2, ho, ka, hg, h1, h2⟩ := K2.out
  have hWs := heap_lt HB.out.2.2
  have e1 := kb_set (w2.alloc (.cells #[.int .u8 u.k, .bool u.m, .int .i64 u.r, .int .i64 u.s, .slice ga u.of.length gc] 36)) w0.heap.size 4 (.slice (some ⟨w2.heap.size, 0, none⟩) 1 1)
  have e2 := set5_kb ((w2.alloc (.cells #[.int .u8 u.k, .bool u.m, .int .i64 u.r, .int .i64 u.s, .slice ga u.of.length gc] 36)).setCell ⟨w0.heap.size, 4, none⟩ (.slice (some ⟨w2.heap.size, 0, none⟩) 1 1)) (w0.heap.size + 1) (.int .u8 k) (.bool m) (.int .i64 rg) (.int .i64 st) (.slice (some ⟨w2.heap.size, 0, none⟩) 1 1)
  refine ret_ty1 (X := w0.heap.size + 1) rfl rfl (set5_blk (e1.heap (by omega) h2) (.int .u8 k) (.bool m) (.int .i64 rg) (.int .i64 st) (.slice (some ⟨w2.heap.size, 0, none⟩) 1 1)) rfl ?_
  refine HE.out _ _ ⟨set5_new (kb_new (HB.out.1.trans (k2.trans ka)) (Nat.le_refl _) _ _) (show w0.heap.size ≤ w0.heap.size + 1 by omega) _ _ _ _ _, w2.heap.size, ga, gc, rfl, by omega, e2.heap (by omega) (e1.heap (by omega) hg), ?_⟩
  exact (((ho.kb ka (fun k _ _ h => h)).kb e1 (fun k h _ e => by omega)).kb e2 (fun k h _ e => by omega)).base (by omega)
theorem own_any : ∀ n : Nat, ∀ (t : Ty) (a : Option Addr) (c : Nat) (w : World), deepT n t = true → TyAt (n + 1) w t a c → Calls Tryz.prog 73 #[tyV t a c] w (OwnEnd n t w) := by
  intro n
  induction n with
  | zero =>
    intro t a c w hd _
    have h0 : t.of.length = 0 := by unfold deepT at hd; simpa using hd
    exact (own_zero t a c w h0).mono fun e w' ⟨he, hk⟩ => ⟨hk, none, 0, he, OwnT.none h0⟩
  | succ n ih =>
    intro t a c w hd ha
    have hle := deep_le hd
    rcases Nat.lt_or_ge 0 t.of.length with h0 | h0
    · have h1 : t.of.length = 1 := by omega
      obtain ⟨m, hm, hdi⟩ := deep_in hd h1
      obtain rfl : n = m := by omega
      obtain ⟨ab, ao, a', c', rfl, hca, hta⟩ := ha.in0 h0
      exact own_one t ab ao a' c' c w h1 (by have := ha.1; omega) hca n (fun V hV => ih (in0 t) a' c' V hdi (hta.kbF hV))
    · exact (own_zero t a c w (by omega)).mono fun e w' ⟨he, hk⟩ => ⟨hk, none, 0, he, OwnT.none (by omega)⟩
end Go.Proofs.YtpigppghcghpbaaGreatDoor

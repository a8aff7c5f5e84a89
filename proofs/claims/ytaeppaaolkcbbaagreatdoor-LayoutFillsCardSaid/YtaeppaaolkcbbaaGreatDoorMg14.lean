/- types.own, types.Own. DERIVED: THE SHELF's CONTRACTS AT THIS DUMP, IN PLAIN WORDS (tools/lay-plain.mjs out of 'YtaeppaaolkcbbaaGreatDoorShelfLy.lean', which tools/lay-shelf.mjs wrote): THE SAME DECLARATIONS UNDER THE SAME NAMES: 'import', 'namespace', 'open', 'def', 'theorem' AND NOTHING ELSE: no command of the shelf's: FOR A HAND-IN. Each laying: the table of numbers ('.._ren') and one theorem, a field a fact of the dump's own or the kernel's comparison; each contract: ONE APPLICATION. slices.Repeat of one number. -/
import Derived.Test.YtaeppaaolkcbbaaGreatDoorMg13
import Derived.Shelf.Strconv.Itoa0
import Derived.Shelf.Strconv.Itoa1
import Derived.Shelf.LaysM
import Derived.Shelf.Strconv.Itoa2
import Derived.Shelf.Strconv.Itoa3
import Derived.Shelf.Bits.Mul64
import Derived.Test.YtaeppaaolkcbbaaGreatDoorProg
import Derived.Laws.CopyOwn
import Derived.Deep.RegionLaw
namespace Go.Proofs.YtaeppaaolkcbbaaGreatDoor
open Go.RowKit

theorem ret_ty1 {fn : Func} {R : Ending → World → Prop} {a : Act} {w : World} {p X : Nat} {k : Int} {m : Bool} {r s : Int} {v : Value} (h : fn.results = #[.cell p 26]) (hp : a.tmps.getD p undef = .pointer (some ⟨X, 0, none⟩))
    (hc : w.heap[X]? = some (.cells #[.int .u8 k, .bool m, .int .i64 r, .int .i64 s, v] 26 (0, 0))) (hd : a.defers = []) (hR : R (.returned (.agg #[.int .u8 k, .bool m, .int .i64 r, .int .i64 s, v])) w) : bodyPost Tryz.prog fn R .ret a w := by
  refine bodyPost_ret (v := .agg #[.int .u8 k, .bool m, .int .i64 r, .int .i64 s, v]) ?_ hd hR
  have hp' : a.tmps[p]?.getD undef = .pointer (some ⟨X, 0, none⟩) := by simpa using hp
  have c0 : w.cell? ⟨X, 0, none⟩ = some (.int .u8 k) := blk_cell hc 0
  have c1 : w.cell? ⟨X, 1, none⟩ = some (.bool m) := blk_cell hc 1
  have c2 : w.cell? ⟨X, 2, none⟩ = some (.int .i64 r) := blk_cell hc 2
  have c3 : w.cell? ⟨X, 3, none⟩ = some (.int .i64 s) := blk_cell hc 3
  have c4 : w.cell? ⟨X, 4, none⟩ = some v := blk_cell hc 4
  simp only [results, h]
  go_simp
/-- The types in a type lie in memory of its own, from block B on. -/
def OwnT : Nat → World → Nat → Ty → Option Addr → Nat → Prop
  | 0, _, _, t, a, c => t.of.length = 0 ∧ a = none ∧ c = 0
  | n + 1, w, B, t, a, c => (t.of.length = 0 ∧ a = none ∧ c = 0) ∨ (t.of.length = 1 ∧ ∃ g a' c', a = some ⟨g, 0, none⟩ ∧ c = 1 ∧ B ≤ g ∧ w.heap[g]? = some (tyObj (in0 t) a' c') ∧ OwnT n w B (in0 t) a' c')
theorem OwnT.kb {S : Nat → Prop} {w w' : World} {B : Nat} (hk : KB S w w') (hS : ∀ k, B ≤ k → k < w.heap.size → ¬ S k) : ∀ {n : Nat} {t : Ty} {a : Option Addr} {c : Nat}, OwnT n w B t a c → OwnT n w' B t a c := by
  intro n
  induction n with
  | zero => intro t a c h; exact h
  | succ n ih =>
    intro t a c h
    rcases h with h | ⟨h1, g, a', c', h2, h3, h4, h5, h6⟩
    · exact Or.inl h
    · exact Or.inr ⟨h1, g, a', c', h2, h3, h4, hk.heap (hS g h4 (heap_lt h5)) h5, ih h6⟩
theorem OwnT.base {w : World} {B B' : Nat} (hB : B' ≤ B) : ∀ {n : Nat} {t : Ty} {a : Option Addr} {c : Nat}, OwnT n w B t a c → OwnT n w B' t a c := by
  intro n
  induction n with
  | zero => intro t a c h; exact h
  | succ n ih =>
    intro t a c h
    rcases h with h | ⟨h1, g, a', c', h2, h3, h4, h5, h6⟩
    · exact Or.inl h
    · exact Or.inr ⟨h1, g, a', c', h2, h3, by omega, h5, ih h6⟩
theorem OwnT.none {w : World} {B n : Nat} {t : Ty} (h : t.of.length = 0) : OwnT n w B t none 0 := by
  cases n with
  | zero => exact ⟨h, rfl, rfl⟩
  | succ n => exact Or.inl ⟨h, rfl, rfl⟩
theorem OwnT.at {w : World} {B : Nat} : ∀ {n : Nat} {t : Ty} {a : Option Addr} {c : Nat}, OwnT n w B t a c → TyAt (n + 1) w t a c := by
  intro n
  induction n with
  | zero =>
    intro t a c h
    exact ⟨by have := h.1; omega, fun i hi => by have := h.1; omega⟩
  | succ n ih =>
    intro t a c h
    rcases h with h | ⟨h1, g, a', c', h2, h3, h4, h5, h6⟩
    · exact ⟨by have := h.1; omega, fun i hi => by have := h.1; omega⟩
    · refine ⟨by omega, fun i hi => ?_⟩
      obtain rfl : i = 0 := by omega
      have hc := TyCells.of_block h5
      refine ⟨g, 0, a', c', h2, ?_, ih h6⟩
      rw [Nat.zero_mul, Nat.add_zero]
      exact hc
/-- What own answers. -/
def OwnEnd (n : Nat) (t : Ty) (w : World) (e : Ending) (w' : World) : Prop := KB F0 w w' ∧ ∃ ga gc, e = .returned (tyV t ga gc) ∧ OwnT n w' w.heap.size t ga gc
set_option maxRecDepth 100000 in
set_option maxHeartbeats 16000000 in
theorem own_zero (t : Ty) (a : Option Addr) (c : Nat) (w : World) (h0 : t.of.length = 0) :
    Calls Tryz.prog 112 #[tyV t a c] w fun e w' => e = .returned (tyV t none 0) ∧ KB F0 w w' := by
  obtain ⟨w0, rfl⟩ : ∃ w0, w0 = w := ⟨_, rfl⟩
  unfold tyV
  rw [h0]
  clear h0
  obtain ⟨hk, hb1, hb2⟩ := new2 w0 #[.int .u8 t.k, .bool t.m, .int .i64 t.r, .int .i64 t.s, .slice a 0 c] ty0c 26 26
  unfold ty0c at hk hb1 hb2
  obtain ⟨W, hW⟩ : ∃ W, W = ((w0.alloc (.cells #[.int .u8 t.k, .bool t.m, .int .i64 t.r, .int .i64 t.s, .slice a 0 c] 26)).alloc (.cells #[.int .u8 0, .bool false, .int .i64 0, .int .i64 0, .slice none 0 0] 26)) := ⟨_, rfl⟩
  rw [← hW] at hk hb1 hb2
  have a0 : W.cell? ⟨w0.heap.size, 0, none⟩ = some (.int .u8 t.k) := blk_cell hb1 0
  have a1 : W.cell? ⟨w0.heap.size, 1, none⟩ = some (.bool t.m) := blk_cell hb1 1
  have a2 : W.cell? ⟨w0.heap.size, 2, none⟩ = some (.int .i64 t.r) := blk_cell hb1 2
  have a3 : W.cell? ⟨w0.heap.size, 3, none⟩ = some (.int .i64 t.s) := blk_cell hb1 3
  have a4 : W.cell? ⟨w0.heap.size, 4, none⟩ = some (.slice a 0 c) := blk_cell hb1 4
  have b0 : W.cell? ⟨w0.heap.size + 1, 0, none⟩ = some (.int .u8 0) := blk_cell hb2 0
  have b1 : W.cell? ⟨w0.heap.size + 1, 1, none⟩ = some (.bool false) := blk_cell hb2 1
  have b2 : W.cell? ⟨w0.heap.size + 1, 2, none⟩ = some (.int .i64 0) := blk_cell hb2 2
  have b3 : W.cell? ⟨w0.heap.size + 1, 3, none⟩ = some (.int .i64 0) := blk_cell hb2 3
  have b4 : W.cell? ⟨w0.heap.size + 1, 4, none⟩ = some (.slice none 0 0) := blk_cell hb2 4
  have f4 := blk_frozen hb1 4
  have g0 := blk_frozen hb2 0
  have g1 := blk_frozen hb2 1
  have g2 := blk_frozen hb2 2
  have g3 := blk_frozen hb2 3
  have g4 := blk_frozen hb2 4
  have HB := Lib.hid (And.intro hk (And.intro hb1 hb2))
  have HW := Lib.hid hW
  generalize t.k = k at *
  generalize t.m = m at *
  generalize t.r = rg at *
  generalize t.s = st at *
  clear hk hb1 hb2 hW
  go_enter Tryz.func112, Tryz.ntmps112
  go_upto_region 1 with fail
  rw [← HW.out]
  go_wp2_with fail
  have k1 := kb_set W w0.heap.size 4 (.slice none 0 0)
  refine ret_ty1 (X := w0.heap.size + 1) rfl rfl (set5_blk (k1.heap (by omega) HB.out.2.2) (.int .u8 k) (.bool m) (.int .i64 rg) (.int .i64 st) (.slice none 0 0)) rfl ?_
  exact ⟨rfl, set5_new (HB.out.1.oldS k1 (fun k hk e => by omega)) (show w0.heap.size ≤ w0.heap.size + 1 by omega) _ _ _ _ _⟩
set_option maxRecDepth 100000 in
set_option maxHeartbeats 16000000 in
theorem own_one (t : Ty) (ab ao : Nat) (a' : Option Addr) (c' c : Nat) (w : World) (h1 : t.of.length = 1) (hc : 1 ≤ c) (hca : TyCells w ab ao (in0 t) a' c') (n : Nat)
    (rec : ∀ V, KB F0 w V → Calls Tryz.prog 112 #[tyV (in0 t) a' c'] V (OwnEnd n (in0 t) V)) :
    Calls Tryz.prog 112 #[tyV t (some ⟨ab, ao, none⟩) c] w (OwnEnd (n + 1) t w) := by
  obtain ⟨w0, rfl⟩ : ∃ w0, w0 = w := ⟨_, rfl⟩
  have HE : Hid (∀ e w' , (KB F0 w0 w' ∧ ∃ g a' c', e = .returned (.agg #[.int .u8 t.k, .bool t.m, .int .i64 t.r, .int .i64 t.s, .slice (some ⟨g, 0, none⟩) 1 1]) ∧ w0.heap.size ≤ g ∧ w'.heap[g]? = some (tyObj (in0 t) a' c') ∧ OwnT n w' w0.heap.size (in0 t) a' c') → OwnEnd (n + 1) t w0 e w') := Lib.hid (fun e w' h => by
    obtain ⟨hk, g, a', c', e1, h2, h3, h4⟩ := h
    refine ⟨hk, some ⟨g, 0, none⟩, 1, ?_, Or.inr ⟨h1, g, a', c', rfl, rfl, h2, h3, h4⟩⟩
    rw [e1]; unfold tyV; rw [h1])
  generalize OwnEnd (n + 1) t w0 = EE at HE ⊢
  have RC := Lib.hid rec
  clear rec
  unfold tyV at RC ⊢
  rw [h1]
  clear h1
  obtain ⟨hk, hb1, hb2⟩ := new2 w0 #[.int .u8 t.k, .bool t.m, .int .i64 t.r, .int .i64 t.s, .slice (some ⟨ab, ao, none⟩) 1 c] ty0c 26 26
  unfold ty0c at hk hb1 hb2
  obtain ⟨W, hW⟩ : ∃ W, W = ((w0.alloc (.cells #[.int .u8 t.k, .bool t.m, .int .i64 t.r, .int .i64 t.s, .slice (some ⟨ab, ao, none⟩) 1 c] 26)).alloc (.cells #[.int .u8 0, .bool false, .int .i64 0, .int .i64 0, .slice none 0 0] 26)) := ⟨_, rfl⟩
  rw [← hW] at hk hb1 hb2
  have a0 : W.cell? ⟨w0.heap.size, 0, none⟩ = some (.int .u8 t.k) := blk_cell hb1 0
  have a1 : W.cell? ⟨w0.heap.size, 1, none⟩ = some (.bool t.m) := blk_cell hb1 1
  have a2 : W.cell? ⟨w0.heap.size, 2, none⟩ = some (.int .i64 t.r) := blk_cell hb1 2
  have a3 : W.cell? ⟨w0.heap.size, 3, none⟩ = some (.int .i64 t.s) := blk_cell hb1 3
  have a4 : W.cell? ⟨w0.heap.size, 4, none⟩ = some (.slice (some ⟨ab, ao, none⟩) 1 c) := blk_cell hb1 4
  have b0 : W.cell? ⟨w0.heap.size + 1, 0, none⟩ = some (.int .u8 0) := blk_cell hb2 0
  have b1 : W.cell? ⟨w0.heap.size + 1, 1, none⟩ = some (.bool false) := blk_cell hb2 1
  have b2 : W.cell? ⟨w0.heap.size + 1, 2, none⟩ = some (.int .i64 0) := blk_cell hb2 2
  have b3 : W.cell? ⟨w0.heap.size + 1, 3, none⟩ = some (.int .i64 0) := blk_cell hb2 3
  have b4 : W.cell? ⟨w0.heap.size + 1, 4, none⟩ = some (.slice none 0 0) := blk_cell hb2 4
  have f4 := blk_frozen hb1 4
  have g0 := blk_frozen hb2 0
  have g1 := blk_frozen hb2 1
  have g2 := blk_frozen hb2 2
  have g3 := blk_frozen hb2 3
  have g4 := blk_frozen hb2 4
  have HB := Lib.hid (And.intro hk (And.intro hb1 hb2))
  have HW := Lib.hid hW
  obtain ⟨i0, i1, i2, i3, i4⟩ := hca.kbF hk
  have hcI : (1 : Int) ≤ (c : Int) := by omega
  generalize in0 t = u at *
  generalize t.k = k at *
  generalize t.m = m at *
  generalize t.r = rg at *
  generalize t.s = st at *
  clear hk hb1 hb2 hW
  go_enter Tryz.func112, Tryz.ntmps112
  go_upto_region 1 with fail
  rw [← HW.out]
  go_wp2_with fail
  refine (RC.out _ HB.out.1).mono ?_
  rintro e w2 ⟨k2, ga, gc, rfl, ho⟩
  unfold tyV
  have ka := (KB.refl F0 w2).alloc (.cells #[.int .u8 u.k, .bool u.m, .int .i64 u.r, .int .i64 u.s, .slice ga u.of.length gc] 26)
  have hg := alloc_new w2 (.cells #[.int .u8 u.k, .bool u.m, .int .i64 u.r, .int .i64 u.s, .slice ga u.of.length gc] 26)
  have h1 := ka.heap (fun x => x) (k2.heap (fun x => x) HB.out.2.1)
  have h2 := ka.heap (fun x => x) (k2.heap (fun x => x) HB.out.2.2)
  have hsz : w0.heap.size + 1 < w2.heap.size := heap_lt (k2.heap (fun x => x) HB.out.2.2)
  have K2 := Lib.hid (And.intro k2 (And.intro ho (And.intro ka (And.intro hg (And.intro h1 h2)))))
  clear a0 a1 a2 a3 a4 b0 b1 b2 b3 b4 f4 g0 g1 g2 g3 g4
  have f4 := blk_frozen h1 4
  have a4 := blk_cell h1 4
  simp only [List.getElem?_toArray, List.getElem?_cons_zero, List.getElem?_cons_succ] at a4
  have a0 := blk_cell h1 0
  simp only [List.getElem?_toArray, List.getElem?_cons_zero] at a0
  have a1 := blk_cell h1 1
  simp only [List.getElem?_toArray, List.getElem?_cons_zero, List.getElem?_cons_succ] at a1
  have a2 := blk_cell h1 2
  simp only [List.getElem?_toArray, List.getElem?_cons_zero, List.getElem?_cons_succ] at a2
  have a3 := blk_cell h1 3
  simp only [List.getElem?_toArray, List.getElem?_cons_zero, List.getElem?_cons_succ] at a3
  have b0 := blk_cell h2 0
  have b1 := blk_cell h2 1
  have b2 := blk_cell h2 2
  have b3 := blk_cell h2 3
  have b4 := blk_cell h2 4
  simp only [List.getElem?_toArray, List.getElem?_cons_zero, List.getElem?_cons_succ] at b0 b1 b2 b3 b4
  have g0 := blk_frozen h2 0
  have g1 := blk_frozen h2 1
  have g2 := blk_frozen h2 2
  have g3 := blk_frozen h2 3
  have g4 := blk_frozen h2 4
  clear k2 ho ka hg h1 h2
  go_wp2_with fail
  obtain ⟨k2, ho, ka, hg, h1, h2⟩ := K2.out
  have hWs := heap_lt HB.out.2.2
  have e1 := kb_set (w2.alloc (.cells #[.int .u8 u.k, .bool u.m, .int .i64 u.r, .int .i64 u.s, .slice ga u.of.length gc] 26)) w0.heap.size 4 (.slice (some ⟨w2.heap.size, 0, none⟩) 1 1)
  have e2 := set5_kb ((w2.alloc (.cells #[.int .u8 u.k, .bool u.m, .int .i64 u.r, .int .i64 u.s, .slice ga u.of.length gc] 26)).setCell ⟨w0.heap.size, 4, none⟩ (.slice (some ⟨w2.heap.size, 0, none⟩) 1 1)) (w0.heap.size + 1) (.int .u8 k) (.bool m) (.int .i64 rg) (.int .i64 st) (.slice (some ⟨w2.heap.size, 0, none⟩) 1 1)
  refine ret_ty1 (X := w0.heap.size + 1) rfl rfl (set5_blk (e1.heap (by omega) h2) (.int .u8 k) (.bool m) (.int .i64 rg) (.int .i64 st) (.slice (some ⟨w2.heap.size, 0, none⟩) 1 1)) rfl ?_
  refine HE.out _ _ ⟨set5_new (kb_new (HB.out.1.trans (k2.trans ka)) (Nat.le_refl _) _ _) (show w0.heap.size ≤ w0.heap.size + 1 by omega) _ _ _ _ _, w2.heap.size, ga, gc, rfl, by omega, e2.heap (by omega) (e1.heap (by omega) hg), ?_⟩
  exact (((ho.kb ka (fun k _ _ h => h)).kb e1 (fun k h _ e => by omega)).kb e2 (fun k h _ e => by omega)).base (by omega)
theorem own_any : ∀ n : Nat, ∀ (t : Ty) (a : Option Addr) (c : Nat) (w : World), deepT n t = true → TyAt (n + 1) w t a c → Calls Tryz.prog 112 #[tyV t a c] w (OwnEnd n t w) := by
  intro n
  induction n with
  | zero =>
    intro t a c w hd _
    have h0 : t.of.length = 0 := by unfold deepT at hd; simpa using hd
    exact (own_zero t a c w h0).mono fun e w' ⟨he, hk⟩ => ⟨hk, none, 0, he, OwnT.none h0⟩
  | succ n ih =>
    intro t a c w hd ha
    have hle := deep_le hd
    rcases Nat.lt_or_ge 0 t.of.length with h0 | h0
    · have h1 : t.of.length = 1 := by omega
      obtain ⟨m, hm, hdi⟩ := deep_in hd h1
      obtain rfl : n = m := by omega
      obtain ⟨ab, ao, a', c', rfl, hca, hta⟩ := ha.in0 h0
      exact own_one t ab ao a' c' c w h1 (by have := ha.1; omega) hca n (fun V hV => ih (in0 t) a' c' V hdi (hta.kbF hV))
    · exact (own_zero t a c w (by omega)).mono fun e w' ⟨he, hk⟩ => ⟨hk, none, 0, he, OwnT.none (by omega)⟩
end Go.Proofs.YtaeppaaolkcbbaaGreatDoor

namespace Go.Proofs
open Go.Shelf
def Tryz.lays171_ren : Go.Shelf.Ren := ⟨fun | 171 => 150 | 243 => 162 | 246 => 165 | 283 => 166 | 284 => 167 | 285 => 168 | 286 => 169 | 129 => 171 | 317 => 170 | 318 => 172 | 319 => 173 | 320 => 174 | 337 => 175 | 338 => 176 | n => n, fun | 3 => 3 | 9 => 9 | 2 => 2 | 4 => 4 | 171 => 233 | 0 => 0 | 53 => 220 | 37 => 236 | 5 => 5 | 173 => 237 | 212 => 241 | 51 => 217 | 20 => 20 | 213 => 242 | 46 => 179 | 232 => 245 | 233 => 246 | n => n, fun | 17 => 0 | 18 => 1 | 19 => 2 | n => n⟩
theorem Tryz.lays171 : Go.Proofs.Lays.n171 Tryz.prog Tryz.lays171_ren := {
  mixed := by kernel_rfl
  f129 := Tryz.func171.trans (congrArg some (by kernel_rfl))
  f171 := Tryz.func150.trans (congrArg some (by kernel_rfl))
  f243 := Tryz.func162.trans (congrArg some (by kernel_rfl))
  f246 := Tryz.func165.trans (congrArg some (by kernel_rfl))
  f283 := Tryz.func166.trans (congrArg some (by kernel_rfl))
  f284 := Tryz.func167.trans (congrArg some (by kernel_rfl))
  f285 := Tryz.func168.trans (congrArg some (by kernel_rfl))
  f286 := Tryz.func169.trans (congrArg some (by kernel_rfl))
  f317 := Tryz.func170.trans (congrArg some (by kernel_rfl))
  f318 := Tryz.func172.trans (congrArg some (by kernel_rfl))
  f319 := Tryz.func173.trans (congrArg some (by kernel_rfl))
  f320 := Tryz.func174.trans (congrArg some (by kernel_rfl))
  f337 := Tryz.func175.trans (congrArg some (by kernel_rfl))
  f338 := Tryz.func176.trans (congrArg some (by kernel_rfl))
  t0 := Tryz.underlying0
  a0 := Tryz.isAgg0
  z0 := Tryz.sizeOf0
  v0 := Tryz.zeroValue0
  t2 := Tryz.underlying2
  a2 := Tryz.isAgg2
  z2 := Tryz.sizeOf2
  v2 := Tryz.zeroValue2
  t3 := Tryz.underlying3
  a3 := Tryz.isAgg3
  z3 := Tryz.sizeOf3
  v3 := Tryz.zeroValue3
  t4 := Tryz.underlying4
  a4 := Tryz.isAgg4
  z4 := Tryz.sizeOf4
  v4 := Tryz.zeroValue4
  t5 := Tryz.underlying5
  a5 := Tryz.isAgg5
  z5 := Tryz.sizeOf5
  v5 := Tryz.zeroValue5
  t9 := Tryz.underlying9
  a9 := Tryz.isAgg9
  z9 := Tryz.sizeOf9
  v9 := Tryz.zeroValue9
  t20 := Tryz.underlying20
  a20 := Tryz.isAgg20
  z20 := Tryz.sizeOf20
  v20 := Tryz.zeroValue20
  t37 := Tryz.underlying236
  a37 := Tryz.isAgg236
  z37 := Tryz.sizeOf236
  v37 := Tryz.zeroValue236
  t46 := Tryz.underlying179
  a46 := Tryz.isAgg179
  z46 := Tryz.sizeOf179
  v46 := Tryz.zeroValue179
  t51 := Tryz.underlying217
  a51 := Tryz.isAgg217
  z51 := Tryz.sizeOf217
  v51 := Tryz.zeroValue217
  t53 := Tryz.underlying220
  a53 := Tryz.isAgg220
  z53 := Tryz.sizeOf220
  v53 := Tryz.zeroValue220
  t171 := Tryz.underlying233
  a171 := Tryz.isAgg233
  z171 := Tryz.sizeOf233
  v171 := Tryz.zeroValue233
  t173 := Tryz.underlying237
  a173 := Tryz.isAgg237
  z173 := Tryz.sizeOf237
  v173 := Tryz.zeroValue237
  t212 := Tryz.underlying241
  a212 := Tryz.isAgg241
  z212 := Tryz.sizeOf241
  v212 := Tryz.zeroValue241
  t213 := Tryz.underlying242
  a213 := Tryz.isAgg242
  z213 := Tryz.sizeOf242
  t232 := Tryz.underlying245
  a232 := Tryz.isAgg245
  z232 := Tryz.sizeOf245
  v232 := Tryz.zeroValue245
  t233 := Tryz.underlying246
  a233 := Tryz.isAgg246
  z233 := Tryz.sizeOf246
  v233 := Tryz.zeroValue246
  g17 := by kernel_rfl
  g18 := by kernel_rfl
  g19 := by kernel_rfl }
open Go.RowKit Go.Sort Go.Lib in
/-- THE ROAD WITHOUT THE TABLE: 0 <= i < 100: NO PREMISE ON THE WORLD, AND THE WORLD IS AS IT WAS: a row that keeps its argument in that range need list no table ('laid = []'). (LAID: no walk: one application.) -/
theorem Tryz.strconv_Itoa_small (i : Nat) (hi : i < 100) (w : World) :
    Calls Tryz.prog 150 #[.int .i64 i] w fun e w' => e = .returned (.string ⟨(Lib.decDigits i).toArray⟩) ∧ w' = w := Any.strconv_Itoa_small Tryz.lays171 i hi w
def Tryz.lays212_ren : Go.Shelf.Ren := ⟨fun | 212 => 114 | 263 => 148 | 264 => 149 | n => n, fun | 46 => 179 | 51 => 217 | 146 => 218 | 53 => 220 | 148 => 221 | n => n, fun | n => n⟩
theorem Tryz.lays212 : Go.Proofs.Lays.n212 Tryz.prog Tryz.lays212_ren := {
  mixed := by kernel_rfl
  f212 := Tryz.func114.trans (congrArg some (by kernel_rfl))
  f263 := Tryz.func148.trans (congrArg some (by kernel_rfl))
  f264 := Tryz.func149.trans (congrArg some (by kernel_rfl))
  t46 := Tryz.underlying179
  a46 := Tryz.isAgg179
  z46 := Tryz.sizeOf179
  v46 := Tryz.zeroValue179
  t51 := Tryz.underlying217
  a51 := Tryz.isAgg217
  z51 := Tryz.sizeOf217
  v51 := Tryz.zeroValue217
  t53 := Tryz.underlying220
  a53 := Tryz.isAgg220
  z53 := Tryz.sizeOf220
  v53 := Tryz.zeroValue220
  t146 := Tryz.underlying218
  a146 := Tryz.isAgg218
  z146 := Tryz.sizeOf218
  v146 := Tryz.zeroValue218
  t148 := Tryz.underlying221
  a148 := Tryz.isAgg221
  z148 := Tryz.sizeOf221
  v148 := Tryz.zeroValue221 }
open Go.RowKit Go.Lib in
/-- math/bits.Mul: "Mul returns the full-width product of x and y": on a machine of 64 bits: Mul64's. (LAID: no walk: one application.) -/
theorem Tryz.bits_Mul (x y : Nat) (hx : x < 18446744073709551616) (hy : y < 18446744073709551616) (w : World) :
    Calls Tryz.prog 114 #[.int .u64 x, .int .u64 y] w fun e w' => e = .returned (.tuple #[.int .u64 ((x * y / 18446744073709551616 : Nat) : Int), .int .u64 ((x * y % 18446744073709551616 : Nat) : Int)]) ∧ w' = w := Any.bits_Mul Tryz.lays212 x y hx hy w
end Go.Proofs

namespace Go.Proofs.YtaeppaaolkcbbaaGreatDoor
open Go.RowKit

theorem wrap_u64' {x : Int} (h1 : 0 ≤ x) (h2 : x < 18446744073709551616) : IntKind.u64.wrap x = x := by
  show x % 18446744073709551616 = x
  exact Int.emod_eq_of_lt h1 h2
/-- A row of n, the first c of them x. -/
def repC (x : Int) (n c : Nat) : List Value := List.replicate c (.int .i64 x) ++ List.replicate (n - c) (.int .i64 0)
theorem repC_len (x : Int) (n c : Nat) (h : c ≤ n) : (repC x n c).length = n := by unfold repC; simp; omega
theorem repC_splice (x : Int) (n c m : Nat) (h : c + m ≤ n) : splice (repC x n c) c (List.replicate m (.int .i64 x)) = repC x n (c + m) := by
  unfold splice repC
  rw [List.take_append_of_le_length (by simp), List.take_of_length_le (by simp), List.length_replicate, List.drop_append, List.drop_eq_nil_of_le (by simp), List.nil_append, List.length_replicate, List.drop_replicate, ← List.append_assoc, List.replicate_append_replicate]
  congr 2
  omega
theorem make_ints (n : Nat) (hn : n ≤ 1000000) (x : Int) (w : World) : (Instr.makeSlice 40 (.int .i64 (n : Nat)) (.int .i64 (n : Nat))).run Tryz.prog w = .ok (.slice (some ⟨w.heap.size, 0, none⟩) n n) (w.alloc (.cells (repC x n 0).toArray 3)) := by
  obtain ⟨i, hi, hz0, hz1, hz2⟩ := info_parts Tryz.infoInt
  have h := run_makeSlice (P := Tryz.prog) (w := w) 40 3 i _ Tryz.underlying40 hi hz0 .i64 .i64 (n : Nat) (n : Nat) (by omega) (by omega) (by rw [hz1]; simp; omega) (by rw [hz2]; simp; omega) (by omega)
  have e : ∀ m, m = n → madeCells (Value.int .i64 0).cells m = (repC x n 0).toArray := by
    rintro _ rfl
    apply Array.ext
    · unfold madeCells repC; simp
    · intro j h1 h2
      unfold madeCells repC
      simp [Value.cells, Nat.mod_one]
  rw [h, Int.toNat_natCast, e _ (by rw [hz1]; omega)]
theorem below_F0 {w w' : World} (h : Below w.heap.size w w') : KB F0 w w' := ⟨h.os, h.tape, h.output, h.size, fun k hk _ => h.block k hk⟩
theorem cpStop (d s : Operand) {ops : Array Oper} {rest : List Oper} {dst : Option Tmp} {ty : TypeId} {pos : String} {af : Array Edge} {a : Act} {Q : Exit → Act → World → Prop} {w : World}
    (h : wpList Tryz.prog ops Q (⟨dst, Op.call { callee := .builtin .copy, args := #[d, s], argTypes := #[40, 40] }, ty, pos, af, none⟩ :: rest) a w) :
    wpList Tryz.prog ops Q (⟨dst, Op.call { callee := .builtin .copy, args := #[d, s], argTypes := #[40, 40] }, ty, pos, af, none⟩ :: rest) a w := h
set_option maxRecDepth 100000 in
set_option maxHeartbeats 16000000 in
theorem repeat_any (x : Int) (n : Nat) (hn : n ≤ 1000000) (b0 : Nat) (w : World) (h0 : w.heap[b0]? = some (.cells #[.int .i64 x] 3 (0, 0))) :
    Calls Tryz.prog 96 #[.slice (some ⟨b0, 0, none⟩) 1 1, .int .i64 (n : Nat)] w fun e w' => ∃ g, e = .returned (.slice (some ⟨g, 0, none⟩) n n) ∧ w.heap.size ≤ g ∧ w'.heap[g]? = some (.cells (repC x n n).toArray 3 (0, 0)) ∧ KB F0 w w' := by
  obtain ⟨w0, rfl⟩ : ∃ w0, w0 = w := ⟨_, rfl⟩
  have MU := Lib.hid (Tryz.bits_Mul 1 n (by omega) (by omega) w0)
  rw [Nat.one_mul, Nat.div_eq_of_lt (by omega), Nat.mod_eq_of_lt (by omega)] at MU
  have c0 : w0.cell? ⟨b0, 0, none⟩ = some (.int .i64 x) := blk_cell h0 0
  have H0 := Lib.hid h0
  have d1 : decide ((n : Int) < 0) = false := decide_eq_false (by omega)
  have d2 : decide ((9223372036854775807 : Int) < (n : Int)) = false := decide_eq_false (by omega)
  have d3 : decide (9223372036854775807 < n) = false := decide_eq_false (by omega)
  have wu : IntKind.u64.wrap (n : Int) = (n : Int) := wrap_u64' (by omega) (by omega)
  have wi : IntKind.i64.wrap (n : Int) = (n : Int) := w64 (by omega) (by omega)
  have MK := make_ints n hn x w0
  clear h0
  go_enter Tryz.func96, Tryz.ntmps96
  go_wp2_with fail
  refine MU.out.mono ?_
  rintro e w1 ⟨rfl, rfl⟩
  go_upto_region 7 with fail
  obtain ⟨w2, h2⟩ : ∃ w2, w2 = w1.alloc (.cells (repC x n 0).toArray 3) := ⟨_, rfl⟩
  rw [← h2]
  have k2 : KB F0 w1 w2 := by rw [h2]; exact (KB.refl _ _).alloc _
  have b2 : w2.heap[w1.heap.size]? = some (.cells (repC x n 0).toArray 3 (0, 0)) := by rw [h2]; exact alloc_new _ _
  have c2 := k2.cell (p := ⟨b0, 0, none⟩) (fun x => x) c0
  have HB : Hid (Below w1.heap.size w1 w2) := Lib.hid ⟨k2.os, k2.tape, k2.output, k2.size, fun k hk => k2.block k hk (fun x => x)⟩
  have HG := Lib.hid b2
  obtain ⟨g, hg⟩ : ∃ g, g = w1.heap.size := ⟨_, rfl⟩
  have HGE := Lib.hid hg
  rw [← hg] at HG ⊢
  clear h2 k2 b2 MK hg
  go_wp2_with (refine cpStop (.tmp 31) (.tmp 32) (Stopped.out ?_))
  refine ⟨?_⟩
  obtain ⟨m, hm⟩ : ∃ m, m = min n 1 := ⟨_, rfl⟩
  refine wpList_copy_splice rfl (.tmp 31) (.tmp 32) 40 40 rfl 3 Tryz.underlying40 (by kernel_rfl) (some ⟨g, 0, none⟩) (some ⟨b0, 0, none⟩) n n 1 1 rfl rfl g 0 (repC x n 0) 3 HG.out (List.replicate m (.int .i64 x)) (by rw [List.length_replicate, hm]; exact Nat.min_comm _ _) (fun _ => ⟨rfl, _, rfl, fun j v hj => by
      rw [List.getElem?_replicate] at hj
      split at hj
      · have : j = 0 := by omega
        subst this
        cases hj; exact c2
      · cases hj⟩) (by rw [repC_len x n 0 (by omega)]; simp; omega) (fun v hv => by rw [List.eq_of_mem_replicate hv]; rfl) w1.heap.size w1 HB.out (by rw [HGE.out]; exact Nat.le_refl _) ?_
  intro w3 HG3 HB3
  rw [repC_splice x n 0 m (by omega), Nat.zero_add] at HG3
  rw [List.length_replicate]
  have HB3' := Lib.hid HB3
  have hm1 : m ≤ n := by omega
  have HMN : Hid (0 < n → 0 < m) := Lib.hid (by omega)
  clear HB3 HG HB c2 hm
  go_wp2_with fail
  go_loopw [8] (fun kv wr => ∃ c : Nat, c ≤ n ∧ kv = .int .i64 (c : Nat) ∧ Hid (wr.heap[g]? = some (.cells (repC x n c).toArray 3 (0, 0)) ∧ Below w1.heap.size w1 wr ∧ (0 < n → 0 < c))) (fun kv _ => n - (intOf kv).toNat)
  case atStart => exact ⟨m, hm1, rfl, Lib.hid ⟨HG3.out, HB3'.out, HMN.out⟩⟩
  case round =>
    obtain ⟨c, hc, rfl, hst⟩ := hrel
    by_cases hlt : c < n
    · have hcI : (c : Int) < (n : Int) := by omega
      have dc : decide ((c : Int) < (n : Int)) = true := decide_eq_true hcI
      have dcn : decide (c < n) = true := decide_eq_true hlt
      have hc0 : ¬ (c : Int) < 0 := by omega
      have hcn : (c : Int) ≤ (n : Int) := by omega
      go_upto_region 9 with fail
      obtain ⟨q, hq⟩ : ∃ q, q = min c (n - c) := ⟨_, rfl⟩
      have HSR : Hid (∀ W : World, W.heap[g]? = some (.cells (repC x n c).toArray 3 (0, 0)) → ∀ j v, (List.replicate q (Value.int .i64 x))[j]? = some v → W.cell? ((⟨g, 0, none⟩ : Addr).add j) = some v) := Lib.hid (fun W hW j v hj => by
        rw [List.getElem?_replicate] at hj
        split at hj
        · rename_i hjq
          cases hj
          rw [show ((⟨g, 0, none⟩ : Addr).add j) = ⟨g, j, none⟩ by unfold Addr.add; by_cases h : j = 0 <;> simp [h], blk_cell hW]
          unfold repC
          rw [List.getElem?_toArray, List.getElem?_append_left (by simp; omega), List.getElem?_replicate, if_pos (by omega)]
        · cases hj)
      have HQ : Hid ((List.replicate q (Value.int .i64 x)).length = Nat.min c (n - c)) := Lib.hid (by rw [List.length_replicate, hq])
      have HF : Hid (c + (List.replicate q (Value.int .i64 x)).length ≤ (repC x n c).length) := Lib.hid (by rw [repC_len x n c hc, List.length_replicate]; omega)
      have HO : Hid (∀ v ∈ List.replicate q (Value.int .i64 x), v.oneCell' = true) := Lib.hid (fun v hv => by rw [List.eq_of_mem_replicate hv]; rfl)
      have HGB : Hid (w1.heap.size ≤ g) := Lib.hid (by rw [HGE.out]; exact Nat.le_refl _)
      have hcp : ∃ W4, (Builtin.copy_ #[40, 40] 3 #[.slice (some ⟨g, c, none⟩) (n - c) (n - c), .slice (some ⟨g, 0, none⟩) c n]).run Tryz.prog wr.drew = .ok (goInt q) W4 ∧ Hid (W4.heap[g]? = some (.cells (repC x n (c + q)).toArray 3 (0, 0)) ∧ Below w1.heap.size w1 W4) := by
        have hg1 : wr.drew.heap[g]? = some (.cells (repC x n c).toArray 3 (0, 0)) := hst.out.1
        have h := run_copy_row (P := Tryz.prog) wr.drew 40 40 3 3 g c (n - c) (n - c) ⟨g, 0, none⟩ c n (repC x n c).toArray 3 (List.replicate q (.int .i64 x)) Tryz.underlying40 (by kernel_rfl) hg1 HQ.out (HSR.out _ hg1) (by simpa using HF.out) HO.out
        rw [List.length_replicate] at h
        refine ⟨_, h, Lib.hid ⟨?_, (hst.out.2.1.trans (b := wr) (c := wr.drew) ⟨rfl, rfl, rfl, Nat.le_refl _, fun _ _ => rfl⟩).trans (below_setRow (Below.refl _ _) HGB.out _)⟩⟩
        rw [setRow_heap wr.drew g _ _ _ _ hg1, ← repC_splice x n c q (by omega)]
        unfold splice
        rw [List.length_replicate, List.append_assoc]
      obtain ⟨W4, hrun, H4⟩ := hcp
      have hq1 : 0 < q := by have := hst.out.2.2; omega
      have hq2 : c + q ≤ n := by omega
      have wq : IntKind.i64.wrap ((c : Int) + (q : Int)) = ((c + q : Nat) : Int) := by rw [w64 (by omega) (by omega)]; omega
      have hnc : ¬ n = c := by omega
      clear hq
      unfold goInt at hrun
      go_region
      go_wp2_with fail
      exact ⟨⟨c + q, hq2, rfl, Lib.hid ⟨H4.out.1, H4.out.2, fun _ => by omega⟩⟩, by simp [intOf]; omega⟩
    · obtain rfl : c = n := by omega
      have dc : decide ((c : Int) < (c : Int)) = false := decide_eq_false (by omega)
      have dcn : decide (c < c) = false := decide_eq_false (by omega)
      go_wp2_with fail
      go_ret
      exact ⟨g, rfl, by rw [HGE.out]; exact Nat.le_refl _, hst.out.1, below_F0 hst.out.2.1⟩
end Go.Proofs.YtaeppaaolkcbbaaGreatDoor

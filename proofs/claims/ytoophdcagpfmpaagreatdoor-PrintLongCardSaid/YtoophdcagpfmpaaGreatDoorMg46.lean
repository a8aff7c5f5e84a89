/- Own trees: appended to, their root's list changed. loanwordlaw05.ten; one, as an own tree. loanwordlaw05.awake: what the answers are. -/
import Derived.Test.YtoophdcagpfmpaaGreatDoorTrOwnA
import Derived.Test.YtoophdcagpfmpaaGreatDoorMg23
import Derived.Test.YtoophdcagpfmpaaGreatDoorMg44
import Derived.Test.YtoophdcagpfmpaaGreatDoorPrS
namespace Go.Proofs.YtoophdcagpfmpaaGreatDoor
open Go.RowKit

theorem rowCells_app2 : ∀ (ts : List Nd) (ls : List Value) (us : List Nd) (ms : List Value), ls.length = ts.length → rowCells (ts ++ us) (ls ++ ms) = rowCells ts ls ++ rowCells us ms
  | [], [], _, _, _ => by simp [rowCells]
  | y :: ys, m :: ms', us, ms, h => by
    simp only [List.cons_append, rowCells, rowCells_app2 ys ms' us ms (by simpa using h), List.append_assoc]
/-- Two trees' nodes, one behind the other. -/
theorem OwnTs.append {w w' : World} {B : Nat} {v v2 v' : Value} {ts us : List Nd} {ls ms : List Value} (h : OwnTs w B v ts ls) (h2 : OwnTs w B v2 us ms)
    (h' : w'.ownsRow B 44 5 v' (ts.length + us.length) (rowCells ts ls ++ rowCells us ms)) (hg : w.grownBy w' v.ownBlock) : OwnTs w' B v' (ts ++ us) (ls ++ ms) := by
  have hne : ∀ {u : Value} {n : Nat} {xs : List Value}, w.ownsRow B 3 1 u n xs → w'.ownsRow B 3 1 u n xs := fun hu => own_grown hu hg (fun g e1 e2 => by
    obtain ⟨c1, h1, -⟩ := own_block hu e1
    obtain ⟨c2, h2, -⟩ := own_block h.row e2
    rw [h1] at h2; cases h2)
  refine ⟨by simp [h.len, h2.len], ?_, ?_⟩
  · rw [rowCells_app2 _ _ _ _ h.len, List.length_append]; exact h'
  · intro k hk
    rw [List.length_append] at hk
    by_cases hlt : k < ts.length
    · have e1 : (ls ++ ms).getD k undef = ls.getD k undef := by simp [List.getD_eq_getElem?_getD, List.getElem?_append_left (show k < ls.length by rw [h.len]; exact hlt)]
      have e2 : (ts ++ us).getD k nd0 = ts.getD k nd0 := by simp [List.getD_eq_getElem?_getD, List.getElem?_append_left hlt]
      rw [e1, e2]
      exact hne (h.lists k hlt)
    · have e1 : (ls ++ ms).getD k undef = ms.getD (k - ts.length) undef := by simp [List.getD_eq_getElem?_getD, List.getElem?_append_right (show ls.length ≤ k by rw [h.len]; omega), h.len]
      have e2 : (ts ++ us).getD k nd0 = us.getD (k - ts.length) nd0 := by simp [List.getD_eq_getElem?_getD, List.getElem?_append_right (show ts.length ≤ k by omega)]
      rw [e1, e2]
      exact hne (h2.lists _ (by omega))
/-- The root's list apart from the others. -/
def Apart (l0 : Value) (ls : List Value) : Prop := ∀ u ∈ ls, ∀ g, u.ownBlock = some g → l0.ownBlock ≠ some g
theorem OwnTs.rootCell {w : World} {B g n cap : Nat} {r : Nd} {rest : List Nd} {l0 : Value} {ls : List Value} (h : OwnTs w B (.slice (some ⟨g, 0, none⟩) n cap) (r :: rest) (l0 :: ls)) :
    w.cell? ⟨g, 4, none⟩ = some l0 ∧ w.frozen? ⟨g, 4, none⟩ = false ∧ ∃ cur, w.heap[g]? = some (.cells cur 44 (0, 0)) := by
  obtain ⟨hr1, hr2⟩ := h.row
  rcases hr2 with ⟨hr2, -⟩ | ⟨g', cap', cur, hv, hb, hh, hcap, hm, hsz, hx⟩
  · cases hr2
  simp only [Value.slice.injEq, Option.some.injEq, Addr.mk.injEq, and_true] at hv
  obtain ⟨rfl, rfl, rfl⟩ := hv
  refine ⟨?_, blk_frozen hh 4, cur, hh⟩
  rw [blk_cell hh 4, ← Array.getElem?_toList]
  have e := congrArg (fun l => l[4]?) hx
  simp only [List.getElem?_take] at e
  rw [if_pos (by simp; omega)] at e
  rw [e]; rfl
theorem OwnTs.one {w : World} {B : Nat} {v : Value} {ts : List Nd} {ls : List Value} (h : OwnTs w B v ts ls) : ∀ u ∈ rowCells ts ls, u.oneCell' = true := by
  intro u hu
  obtain ⟨i, hi, rfl⟩ := List.getElem_of_mem hu
  have hlen := rowCells_len ts ls h.len
  have hk : i / 5 < ts.length := by omega
  have e := rowCells_get ts ls h.len (i / 5) (i % 5) hk (Nat.mod_lt _ (by decide))
  rw [show i / 5 * 5 + i % 5 = i by omega, List.getElem?_eq_getElem hi] at e
  obtain ⟨a1, c1, e2, -⟩ := own_shape (h.lists _ hk)
  rw [e2] at e
  generalize (rowCells ts ls)[i] = x at e
  have h5 : i % 5 < 5 := Nat.mod_lt _ (by decide)
  generalize i % 5 = q at e h5
  match q, h5 with
  | 0, _ => simp [ndCells] at e; subst e; rfl
  | 1, _ => simp [ndCells] at e; subst e; rfl
  | 2, _ => simp [ndCells] at e; subst e; rfl
  | 3, _ => simp [ndCells] at e; subst e; rfl
  | 4, _ => simp [ndCells] at e; subst e; rfl
/-- The root's list changed. -/
theorem OwnTs.root {w w1 : World} {B g n cap : Nat} {r : Nd} {rest : List Nd} {l0 lv : Value} {ls : List Value} {c : Int} (h : OwnTs w B (.slice (some ⟨g, 0, none⟩) n cap) (r :: rest) (l0 :: ls)) (hap : Apart l0 ls)
    (hk : KB (fun k => l0.ownBlock = some k) w w1) (hl : w1.ownsRow B 3 1 lv (r.l.length + 1) (ints r.l ++ [.int .i64 c])) :
    OwnTs (w1.setCell ⟨g, 4, none⟩ lv) B (.slice (some ⟨g, 0, none⟩) n cap) ({ r with l := r.l ++ [c] } :: rest) (lv :: ls) := by
  have hl0 : ∀ g', l0.ownBlock = some g' → ∃ cur, w.heap[g']? = some (.cells cur 3 (0, 0)) := fun g' hg' => by
    obtain ⟨cur, h1, -⟩ := own_block (h.lists 0 (by simp)) (g := g') hg'
    exact ⟨cur, h1⟩
  obtain ⟨hr1, hr2⟩ := h.row
  rcases hr2 with ⟨hr2, -⟩ | ⟨g', cap', cur, hv, hb, hh, hcap, hm, hsz, hx⟩
  · cases hr2
  simp only [Value.slice.injEq, Option.some.injEq, Addr.mk.injEq, and_true] at hv
  obtain ⟨rfl, rfl, rfl⟩ := hv
  have hg1 : w1.heap[g]? = some (.cells cur 44 (0, 0)) := by
    rw [hk.block g (heap_lt hh) (fun e => by
      obtain ⟨cur', h1⟩ := hl0 g e
      rw [hh] at h1; cases h1)]; exact hh
  have ks := kb_set w1 g 4 lv
  have hkeep : ∀ {u : Value} {m : Nat} {xs : List Value}, w1.ownsRow B 3 1 u m xs → (w1.setCell ⟨g, 4, none⟩ lv).ownsRow B 3 1 u m xs := fun hu => own_kb hu ks (fun g1 e1 e2 => by
    obtain ⟨c1, h1, -⟩ := own_block hu e1
    subst e2
    rw [hg1] at h1; cases h1)
  refine ⟨by have := h.len; simpa using this, ⟨by rw [rowCells_len _ _ (by have := h.len; simpa using this)], Or.inr ⟨g, cap, cur.setIfInBounds 4 lv, by simp, hb, setCell_blk hg1 lv, hcap, hm, by rw [Array.size_setIfInBounds]; exact hsz, ?_⟩⟩, ?_⟩
  · rw [Array.toList_setIfInBounds, List.take_set]
    have e0 : List.take ((r :: rest).length * 5) cur.toList = rowCells (r :: rest) (l0 :: ls) := hx
    rw [show ({ r with l := r.l ++ [c] } :: rest : List Nd).length * 5 = (r :: rest).length * 5 by simp, e0]
    simp [rowCells, ndCells]
  · intro k hk'
    cases k with
    | zero =>
      have := hkeep hl
      have e : ints (r.l ++ [c]) = ints r.l ++ [.int .i64 c] := by simp [ints]
      simp only [List.getD_cons_zero, List.length_append, List.length_singleton, e]
      exact this
    | succ k =>
      have h0 := h.lists (k + 1) (by simpa using hk')
      simp only [List.getD_cons_succ] at h0 ⊢
      refine hkeep (own_kb h0 hk (fun g1 e1 e2 => ?_))
      have hkl : k < ls.length := by have := h.len; simp at this hk'; omega
      exact hap _ (by rw [List.getD_eq_getElem?_getD, List.getElem?_eq_getElem hkl]; exact List.getElem_mem hkl) g1 e1 e2

end Go.Proofs.YtoophdcagpfmpaaGreatDoor

namespace Go.Proofs.YtoophdcagpfmpaaGreatDoor
open Go.RowKit

theorem tenI_succ (j : Nat) (h : 1 ≤ j) : tenI (j + 1) = tenI j * 10 := by
  unfold tenI
  obtain ⟨i, rfl⟩ : ∃ i, j = i + 1 := ⟨j - 1, by omega⟩
  rw [show i + 1 + 1 - 1 = i + 1 by omega, show i + 1 - 1 = i by omega, Nat.pow_succ]
  push_cast
  rfl
set_option maxRecDepth 100000 in
set_option maxHeartbeats 4000000 in
theorem ten5_any (k : Nat) (h1 : 1 ≤ k) (h2 : k ≤ 18) (w : World) : Calls Tryz.prog 25 #[.int .i64 k] w fun e w' => e = .returned (.int .i64 (tenI k)) ∧ KB F0 w w' := by
  obtain ⟨w0, rfl⟩ : ∃ w0, w0 = w := ⟨_, rfl⟩
  go_enter Tryz.func25, Tryz.ntmps25
  go_wp2_with fail
  go_loopw [4, 3] (fun iv vv wr => ∃ j : Nat, 1 ≤ j ∧ j ≤ k ∧ iv = .int .i64 (j : Nat) ∧ vv = .int .i64 (tenI j) ∧ Hid (KB F0 w0 wr)) (fun iv _ _ => k - (intOf iv).toNat)
  case atStart => exact ⟨1, by omega, h1, rfl, rfl, Lib.hid (KB.refl _ _)⟩
  case round =>
    obtain ⟨j, hj1, hj, rfl, rfl, hst⟩ := hrel
    by_cases hlt : j < k
    · have hb := tenI_bound (j + 1) (by omega)
      have hs := tenI_succ j hj1
      have hw : IntKind.i64.wrap (tenI j * 10) = tenI (j + 1) := by rw [← hs]; exact w64 (by omega) (by omega)
      have HS := Lib.hid hs
      clear hs
      go_wp2_with fail
      go_roundw
      case rel => exact ⟨j + 1, by omega, by omega, by go_num, rfl, hst⟩
      case measure => simp [intOf]; omega
    · obtain rfl : j = k := by omega
      go_wp2_with fail
      go_ret
      exact ⟨rfl, hst.out⟩
set_option maxRecDepth 100000 in
set_option maxHeartbeats 4000000 in
theorem one5_own (k : Nat) (w : World) :
    Calls Tryz.prog 24 #[.agg #[.int .u8 k, .int .i64 0, .int .i64 0, .string ⟨#[]⟩, .slice none 0 0]] w fun e w' => ∃ g, e = .returned (.agg #[.slice (some ⟨g, 0, none⟩) 1 1]) ∧ OwnTs w' w.heap.size (.slice (some ⟨g, 0, none⟩) 1 1) [⟨k, 0, 0, ⟨#[]⟩, []⟩] [.slice none 0 0] ∧ KB F0 w w' := by
  obtain ⟨w0, rfl⟩ : ∃ w0, w0 = w := ⟨_, rfl⟩
  go_enter Tryz.func24, Tryz.ntmps24
  go_wp2_with fail
  have h0 := alloc_new ((w0.alloc (.cells #[.int .u8 (k : Nat), .int .i64 0, .int .i64 0, .string ⟨#[]⟩, .slice none 0 0] 44)).alloc (.cells #[.slice (some ⟨w0.heap.size + 1 + 1, 0, none⟩) 1 1] 24)) (.cells #[.int .u8 (k : Nat), .int .i64 0, .int .i64 0, .string ⟨#[]⟩, .slice none 0 0] 44)
  have h1 := ((KB.refl F0 ((w0.alloc (.cells #[.int .u8 (k : Nat), .int .i64 0, .int .i64 0, .string ⟨#[]⟩, .slice none 0 0] 44)).alloc (.cells #[.slice (some ⟨w0.heap.size + 1 + 1, 0, none⟩) 1 1] 24))).alloc (.cells #[.int .u8 (k : Nat), .int .i64 0, .int .i64 0, .string ⟨#[]⟩, .slice none 0 0] 44)).heap (fun x => x) (alloc_new _ _)
  have s1 : (w0.alloc (.cells #[.int .u8 (k : Nat), .int .i64 0, .int .i64 0, .string ⟨#[]⟩, .slice none 0 0] 44)).heap.size = w0.heap.size + 1 := by simp
  have s2 : ((w0.alloc (.cells #[.int .u8 (k : Nat), .int .i64 0, .int .i64 0, .string ⟨#[]⟩, .slice none 0 0] 44)).alloc (.cells #[.slice (some ⟨w0.heap.size + 1 + 1, 0, none⟩) 1 1] 24)).heap.size = w0.heap.size + 1 + 1 := by simp
  rw [s1] at h1
  rw [s2] at h0
  refine bodyPost_ret (results_cellT rfl _ rfl (blk_cell h1 0)) rfl ⟨_, rfl, ⟨rfl, ⟨rfl, Or.inr ⟨w0.heap.size + 1 + 1, 1, _, rfl, by omega, h0, Nat.le_refl _, by decide, rfl, rfl⟩⟩, fun j hj => ?_⟩, (((KB.refl _ _).alloc _).alloc _).alloc _⟩
  obtain rfl : j = 0 := by simp at hj; omega
  exact World.ownsRow_nil _ _ _ _
end Go.Proofs.YtoophdcagpfmpaaGreatDoor

namespace Go.Proofs.YtoophdcagpfmpaaGreatDoor
open Go.RowKit

def aw5 : List Nd := [⟨29, 0, 0, ByteArray.empty, [1]⟩, ⟨29, 0, 1, ByteArray.empty, [2]⟩, ⟨27, 0, 0, ⟨#[102]⟩, [3]⟩, ⟨28, 0, 0, ByteArray.empty, [4]⟩, ⟨26, 0, 0, ⟨#[120]⟩, []⟩]
def awT : List Nd := [⟨8, 0, 0, ByteArray.empty, []⟩]
def awL : List Nd := [⟨13, 0, 0, ByteArray.empty, []⟩]
theorem aw5_expr : exprP aw5 = (⟨#[38, 32, 38, 109, 117, 116, 32, 40, 42, 120, 41, 46, 102]⟩, 0) := by decide +kernel
theorem aw5_level : levelP aw5 2 = (7, 0) := by decide +kernel
theorem aw5_type : typeP awT = (⟨#[105, 54, 52]⟩, 0) := by decide +kernel
theorem aw5_lines : linesP awL = ([⟨#[123]⟩, ⟨#[125]⟩], 0) := by decide +kernel
theorem aw5_file : (fileP aw5).2 = 2 := by decide +kernel
end Go.Proofs.YtoophdcagpfmpaaGreatDoor

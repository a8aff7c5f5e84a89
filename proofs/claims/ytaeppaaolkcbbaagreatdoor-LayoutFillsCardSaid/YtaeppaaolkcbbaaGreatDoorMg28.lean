/- layout.text. A map of the call's own: texts to numbers. -/
import Derived.Test.YtaeppaaolkcbbaaGreatDoorMg27
import Derived.Test.YtaeppaaolkcbbaaGreatDoorMg02
import Derived.Maps.OwnOps
import Derived.Maps.Views
import Derived.StringKeys
namespace Go.Proofs.YtaeppaaolkcbbaaGreatDoor
open Go.RowKit

theorem own_at {w : World} {B : Nat} : ∀ {n m : Nat} {t : Ty} {a : Option Addr} {c : Nat}, OwnT n w B t a c → TyAt m w t a c := by
  intro n
  induction n with
  | zero =>
    intro m t a c h
    cases m with
    | zero => trivial
    | succ m => exact ⟨by have := h.1; omega, fun i hi => by have := h.1; omega⟩
  | succ n ih =>
    intro m t a c h
    cases m with
    | zero => trivial
    | succ m =>
      rcases h with h | ⟨h1, g, a', c', h2, h3, h4, h5, h6⟩
      · exact ⟨by have := h.1; omega, fun i hi => by have := h.1; omega⟩
      · refine ⟨by omega, fun i hi => ?_⟩
        obtain rfl : i = 0 := by omega
        have hc := TyCells.of_block h5
        refine ⟨g, 0, a', c', h2, ?_, ih h6⟩
        rw [Nat.zero_mul, Nat.add_zero]
        exact hc
set_option maxRecDepth 100000 in
set_option maxHeartbeats 32000000 in
theorem lytext_any (t : Ty) (ta : Option Addr) (tc : Nat) (w : World) (hlk : lookB 32 48 t = true) (ht : TyAt 49 w t ta tc) :
    Calls Tryz.prog 79 #[tyV t ta tc] w fun e w' => e = .returned (.string (txB 48 t)) ∧ KB F0 w w' := by
  obtain ⟨w0, rfl⟩ : ∃ w0, w0 = w := ⟨_, rfl⟩
  obtain ⟨W, hW⟩ : ∃ W, W = w0.alloc (.cells #[.int .u8 t.k, .bool t.m, .int .i64 t.r, .int .i64 t.s, .slice ta t.of.length tc] 26) := ⟨_, rfl⟩
  obtain ⟨kb, hb⟩ := boxTy w0 t ta tc
  rw [← hW] at kb hb
  obtain ⟨c0, c1, c2, c3, c4⟩ := TyCells.of_block hb
  simp only [Nat.zero_add] at c0 c1 c2 c3 c4
  have RG := Lib.hid (tyRegions_any t ta tc W (ht.kbF kb))
  obtain ⟨N, hN⟩ : ∃ N, N = (regsF 48 t).length := ⟨_, rfl⟩
  rw [if_pos hlk, ← hN] at RG
  have hNb : N ≤ 1000000 := by rw [hN]; exact Nat.le_trans (regsF_le 48 t) (by omega)
  have AW := Lib.hid (fun (G : Nat) (V : World) (hV : KB F0 W V) (hG : V.heap[G]? = some (.cells (repC (-1) N N).toArray 3 (0, 0))) => anew_any t ta tc G N V hlk (ht.kbF (kb.trans hV)) hG hN.symm)
  have TX := Lib.hid (fun (ua : Option Addr) (uc : Nat) (V : World) (hV : TyAt 49 V (bareF 48 t) ua uc) => tyText_any (bareF 48 t) ua uc V (bareF_look hlk) (bareF_noR (m := 47) (Nat.le_refl 47) (deep_look1 hlk)) hV)
  rw [txB_bare 47 48 t (deep_look1 hlk)] at TX
  obtain ⟨R, hR⟩ : ∃ R, R = txB 48 t := ⟨_, rfl⟩
  rw [← hR] at TX ⊢
  unfold tyV at RG AW TX ⊢
  have HW := Lib.hid hW
  have hsz : W.heap.size = w0.heap.size + 1 := by rw [hW]; simp
  have HB := Lib.hid (And.intro kb (And.intro hb (And.intro hsz hNb)))
  clear hW kb hb hlk ht hR hN hNb hsz
  go_enter Tryz.func79, Tryz.ntmps79
  go_upto_region 1 with fail
  rw [← HW.out]
  go_wp2_with fail
  refine RG.out.mono ?_
  rintro e w1 ⟨v, rfl, hown, k1⟩
  obtain ⟨ga, gc, rfl, -⟩ := own_shape hown
  have K1 := Lib.hid k1
  have hb1 := k1.heap (fun x => x) HB.out.2.1
  clear c0 c1 c2 c3 c4 k1 hown
  obtain ⟨c0, c1, c2, c3, c4⟩ := TyCells.of_block hb1
  simp only [Nat.zero_add] at c0 c1 c2 c3 c4
  have HB1 := Lib.hid hb1
  clear hb1 RG
  go_upto_region 2 with fail
  have RP := Lib.hid (fun (b0 : Nat) (V : World) (h : V.heap[b0]? = some (.cells #[.int .i64 (-1)] 3 (0, 0))) => repeat_any (-1) N HB.out.2.2.2 b0 V h)
  obtain ⟨Wd, hWd⟩ : ∃ Wd, Wd = (w1.alloc (.cells #[.int .i64 (-1)] 3)).drew := ⟨_, rfl⟩
  have HWd := Lib.hid hWd
  have RP2 : Hid (Calls Tryz.prog 96 #[.slice (some ⟨w1.heap.size, 0, none⟩) 1 1, .int .i64 (N : Nat)] (w1.alloc (.cells #[.int .i64 (-1)] 3)).drew fun e w' => ∃ g, e = .returned (.slice (some ⟨g, 0, none⟩) N N) ∧ w'.heap[g]? = some (.cells (repC (-1) N N).toArray 3 (0, 0)) ∧ KB F0 w1 w') := Lib.hid ((RP.out w1.heap.size ((w1.alloc (.cells #[.int .i64 (-1)] 3)).drew) (alloc_new w1 _)).mono (fun e w' ⟨g, h1, _, h2, h3⟩ => ⟨g, h1, h2, (((KB.refl F0 w1).alloc _).drew).trans h3⟩))
  clear hWd
  have p0 : ((w1.alloc (.cells #[.int .i64 (-1)] 3)).drew).cell? ⟨w0.heap.size, 0, none⟩ = some (.int .u8 t.k) := KB.cell (p := ⟨w0.heap.size, 0, none⟩) (((KB.refl F0 w1).alloc _).drew) (fun x => x) c0
  have p1 : ((w1.alloc (.cells #[.int .i64 (-1)] 3)).drew).cell? ⟨w0.heap.size, 1, none⟩ = some (.bool t.m) := KB.cell (p := ⟨w0.heap.size, 1, none⟩) (((KB.refl F0 w1).alloc _).drew) (fun x => x) c1
  have p2 : ((w1.alloc (.cells #[.int .i64 (-1)] 3)).drew).cell? ⟨w0.heap.size, 2, none⟩ = some (.int .i64 t.r) := KB.cell (p := ⟨w0.heap.size, 2, none⟩) (((KB.refl F0 w1).alloc _).drew) (fun x => x) c2
  have p3 : ((w1.alloc (.cells #[.int .i64 (-1)] 3)).drew).cell? ⟨w0.heap.size, 3, none⟩ = some (.int .i64 t.s) := KB.cell (p := ⟨w0.heap.size, 3, none⟩) (((KB.refl F0 w1).alloc _).drew) (fun x => x) c3
  have p4 : ((w1.alloc (.cells #[.int .i64 (-1)] 3)).drew).cell? ⟨w0.heap.size, 4, none⟩ = some (.slice ta t.of.length tc) := KB.cell (p := ⟨w0.heap.size, 4, none⟩) (((KB.refl F0 w1).alloc _).drew) (fun x => x) c4
  go_region_with (first
    | (go_at_call 96; refine RP2.out.mono ?_; rintro e w3 ⟨g, rfl, hg2, hk3⟩; have q0 := hk3.cell (p := ⟨w0.heap.size, 0, none⟩) (fun x => x) c0; have q1 := hk3.cell (p := ⟨w0.heap.size, 1, none⟩) (fun x => x) c1; have q2 := hk3.cell (p := ⟨w0.heap.size, 2, none⟩) (fun x => x) c2; have q3 := hk3.cell (p := ⟨w0.heap.size, 3, none⟩) (fun x => x) c3; have q4 := hk3.cell (p := ⟨w0.heap.size, 4, none⟩) (fun x => x) c4)
    | (go_at_call 95; refine (AW.out g w3 (K1.out.trans hk3) hg2).mono ?_; rintro e w4 ⟨hk4, ua, uc, rfl, ho4⟩; have b4 := (hk3.trans hk4).heap (fun x => x) HB1.out; have H4 := Lib.hid (And.intro hk3 (And.intro hk4 (And.intro ho4 b4))); have d0 := blk_cell b4 0; have d1 := blk_cell b4 1; have d2 := blk_cell b4 2; have d3 := blk_cell b4 3; have d4 := blk_cell b4 4; simp only [List.getElem?_toArray, List.getElem?_cons_zero, List.getElem?_cons_succ] at d0 d1 d2 d3 d4; have f0 := blk_frozen b4 0; have f1 := blk_frozen b4 1; have f2 := blk_frozen b4 2; have f3 := blk_frozen b4 3; have f4 := blk_frozen b4 4; clear hk3 hk4 ho4 b4 hg2; unfold tyV))
  all_goals
    obtain ⟨W5, hW5⟩ : ∃ W5, W5 = set5 w4 w0.heap.size (.int .u8 (bareF 48 t).k) (.bool (bareF 48 t).m) (.int .i64 (bareF 48 t).r) (.int .i64 (bareF 48 t).s) (.slice ua (bareF 48 t).of.length uc) := ⟨_, rfl⟩
    have H5 : Hid (KB F0 w0 W5 ∧ TyAt 49 W5 (bareF 48 t) ua uc) := by
      obtain ⟨hk3, hk4, ho4, b4⟩ := H4.out
      have k5 := set5_kb w4 w0.heap.size (.int .u8 (bareF 48 t).k) (.bool (bareF 48 t).m) (.int .i64 (bareF 48 t).r) (.int .i64 (bareF 48 t).s) (.slice ua (bareF 48 t).of.length uc)
      rw [← hW5] at k5
      have s1 := HB.out.2.2.1
      have s2 := K1.out.size
      have s3 := hk3.size
      exact Lib.hid ⟨(HB.out.1.trans (K1.out.trans (hk3.trans hk4))).oldS k5 (fun k hk e => by omega), own_at (ho4.kb k5 (fun k hk _ e => by omega))⟩
    have b5 : W5.heap[w0.heap.size]? = some (.cells #[.int .u8 (bareF 48 t).k, .bool (bareF 48 t).m, .int .i64 (bareF 48 t).r, .int .i64 (bareF 48 t).s, .slice ua (bareF 48 t).of.length uc] 26 (0, 0)) := by
      rw [hW5]; exact set5_blk H4.out.2.2.2 _ _ _ _ _
    clear c0 c1 c2 c3 c4 d0 d1 d2 d3 d4 f0 f1 f2 f3 f4 p0 p1 p2 p3 p4 q0 q1 q2 q3 q4
    obtain ⟨c0, c1, c2, c3, c4⟩ := TyCells.of_block b5
    simp only [Nat.zero_add] at c0 c1 c2 c3 c4
    unfold set5 at hW5
    rw [← hW5]
    clear hW5 b5
    go_wp2_with fail
    refine (TX.out ua uc W5 H5.out.2).mono ?_
    rintro e w6 ⟨rfl, k6⟩
    have K6 := Lib.hid (H5.out.1.trans k6)
    clear k6
    go_wp2_with fail
    go_ret
    exact ⟨rfl, K6.out⟩
end Go.Proofs.YtaeppaaolkcbbaaGreatDoor

namespace Go.Proofs.YtaeppaaolkcbbaaGreatDoor
open Go.RowKit
open Go.Maps

theorem msT : Tryz.prog.underlying 107 = some (.map 9 3) := by kernel_rfl
theorem msS : Tryz.prog.underlying 9 = some .string := by kernel_rfl
theorem msI : Tryz.prog.underlying 3 = some (.int .i64) := by kernel_rfl
theorem msZ (w : World) : (zeroValue 3).run Tryz.prog w = .ok (.int .i64 0) w := by kernel_rfl
/-- Block b is a map that holds just what f says. -/
def MapIs (w : World) (b n : Nat) (f : List UInt8 → Option Int) : Prop := ∃ D : DataW Unit, w.ownsMap Tryz.prog 9 (plainElem Tryz.prog 3) b n D ∧ IsMap D ∧ ∀ s zd, D.atKey (.string s) zd = match f s with | some i => .lit (.int .i64 i) | none => zd
theorem MapIs.lt {w : World} {b n : Nat} {f : List UInt8 → Option Int} (h : MapIs w b n f) : b < w.heap.size := by
  obtain ⟨D, h, -⟩ := h
  exact h.lt
theorem MapIs.kb {S : Nat → Prop} {w w' : World} {b n : Nat} {f : List UInt8 → Option Int} (h : MapIs w b n f) (hk : KB S w w') (hb : ¬ S b) : MapIs w' b n f := by
  obtain ⟨D, ⟨es, clock, h1, h2, h3, h4⟩, h5⟩ := h
  exact ⟨D, ⟨es, clock, hk.heap hb h1, h2, h3, h4⟩, h5⟩
theorem mapIs_made (w : World) : MapIs (w.alloc (.map #[] 0)) w.heap.size 0 (fun _ => none) := ⟨.map [], World.ownsMap_made w _ _ _, ⟨[], rfl⟩, fun _ _ => rfl⟩
theorem mapIs_look {w : World} {b n : Nat} {f : List UInt8 → Option Int} (h : MapIs w b n f) (s : ByteArray) (hs : s.size ≤ maxLen) :
    (Instr.lookup 107 (.map (some b)) (.string s) true).run Tryz.prog w = .ok (.tuple #[.int .i64 ((f s.data.toList).getD 0), .bool (f s.data.toList).isSome]) w := by
  obtain ⟨D, ⟨es, clock, h1, h2, h3, rfl⟩, -, h6⟩ := h
  have hat := h6 s.data.toList
  rcases fit_look true (string_keyed msS) msT (msZ w) h1 h2 (WideMaps.keyOf_string_mk msS hs) with ⟨hrun, -, ha⟩ | ⟨e0, y, -, -, hrun, hR, ha, -⟩
  · rw [hrun]
    cases hf : f s.data.toList with
    | none => rfl
    | some i =>
      have e1 := (ha (.lit (.bool true))).symm.trans (hat (.lit (.bool true)))
      rw [hf] at e1
      cases e1
  · rw [hrun]
    obtain ⟨c, e1, rfl, -⟩ := plainElem_int_inv msI hR
    cases hf : f s.data.toList with
    | none =>
      have e2 := (ha (.lit (.bool true))).symm.trans (hat (.lit (.bool true)))
      rw [hf] at e2
      cases e2
    | some i =>
      have e2 := (ha (.lit (.bool true))).symm.trans (hat (.lit (.bool true)))
      rw [hf] at e2
      cases e2
      rw [e1]
      rfl
theorem mapIs_put {w : World} {b n : Nat} {f : List UInt8 → Option Int} (h : MapIs w b n f) (hn : n < maxLen) (s : ByteArray) (hs : s.size ≤ maxLen) (c : Int) (hc : (Lit.int .i64 c).wf = true) :
    ∃ w', (Instr.mapUpdate 107 (.map (some b)) (.string s) (.int .i64 c)).run Tryz.prog w = .ok () w' ∧ MapIs w' b (n + 1) (fun l => if l = s.data.toList then some c else f l) ∧ KB (fun k => k = b) w w' := by
  obtain ⟨D, h1, h2, h3⟩ := h
  obtain ⟨w', hrun, r1, r2⟩ := h1.update (string_keyed msS) msT hn (WideMaps.keyOf_string_mk msS hs) (plainElem_int msI hc)
  refine ⟨w', hrun, ⟨_, r1, ?_, fun l zd => ?_⟩, (KB.refl _ w).grown r2 (fun k hk _ => by simpa using hk.symm)⟩
  · obtain ⟨es, clock, -, -, -, e⟩ := r1
    exact ⟨_, e⟩
  · by_cases hl : l = s.data.toList
    · subst hl
      simp only [if_true]
      exact atKey_put_same h2 (show WideAt.IsKeyLit (.string _) from trivial) _ _
    · simp only [if_neg hl]
      rw [atKey_put_other (by intro e; exact hl (by simpa using e))]
      exact h3 l zd
end Go.Proofs.YtaeppaaolkcbbaaGreatDoor

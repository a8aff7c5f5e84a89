/- types.Structs: the first question's parts. Marks of structs in an array, a queue of structs: types.endless. -/
import Derived.Test.YtaeppaaolkcbbaaGreatDoorMg03
import Derived.ArgAppend
import Derived.Deep.LoopGhost
namespace Go.Proofs.YtaeppaaolkcbbaaGreatDoor
open Go.RowKit

def fdV (nm : ByteArray) (f : Ty) (a : Option Addr) (c : Nat) : Value := .agg #[.string nm, .int .u8 f.k, .bool f.m, .int .i64 f.r, .int .i64 f.s, .slice a f.of.length c]
def badF (n : Nat) (f : Ty) : Bool := !mayB n false 48 f
set_option maxRecDepth 100000 in
set_option maxHeartbeats 16000000 in
theorem tyS1a_any (n nb : Nat) (nm : ByteArray) (f : Ty) (a : Option Addr) (c : Nat) (w : World) (hn : w.heap[nb]? = some (.cells #[.int .i64 (n : Nat)] 3 (0, 0))) (ht : TyAt 49 w f a c) :
  Calls Tryz.prog 67 #[fdV nm f a c, .pointer (some ⟨nb, 0, none⟩)] w fun e w' => e = .returned (.bool (badF n f)) ∧ KB F0 w w' := by
 obtain ⟨w0, rfl⟩ : ∃ w0, w0 = w := ⟨_, rfl⟩
 have kb := (KB.refl F0 w0).alloc (.cells #[.string nm, .int .u8 f.k, .bool f.m, .int .i64 f.r, .int .i64 f.s, .slice a f.of.length c] 83)
 have hb := alloc_new w0 (.cells #[.string nm, .int .u8 f.k, .bool f.m, .int .i64 f.r, .int .i64 f.s, .slice a f.of.length c] 83)
 obtain ⟨W, hW⟩ : ∃ W, W = w0.alloc (.cells #[.string nm, .int .u8 f.k, .bool f.m, .int .i64 f.r, .int .i64 f.s, .slice a f.of.length c] 83) := ⟨_, rfl⟩
 rw [← hW] at kb hb
 have c1 : W.cell? ⟨w0.heap.size, 1, none⟩ = some (.int .u8 f.k) := blk_cell hb 1
 have c2 : W.cell? ⟨w0.heap.size, 2, none⟩ = some (.bool f.m) := blk_cell hb 2
 have c3 : W.cell? ⟨w0.heap.size, 3, none⟩ = some (.int .i64 f.r) := blk_cell hb 3
 have c4 : W.cell? ⟨w0.heap.size, 4, none⟩ = some (.int .i64 f.s) := blk_cell hb 4
 have c5 : W.cell? ⟨w0.heap.size, 5, none⟩ = some (.slice a f.of.length c) := blk_cell hb 5
 have cn : W.cell? ⟨nb, 0, none⟩ = some (.int .i64 (n : Nat)) := blk_cell (kb.heap (fun x => x) hn) 0
 have LK := look_any n 48 (by omega) f a c W (ht.kbF kb)
 have RG := fun (V : World) (hk : KB F0 W V) (hd : Deep 48 f) => regions_any 48 (by omega) f a c V ((ht.kbF (kb.trans hk)).le (by omega)) hd
 have hbad : badF n f = (!lookB n 48 f || !decide (regsF 48 f = [])) := by unfold badF; rw [mayB_bare]; simp [Bool.not_and]
 have hD : lookB n 48 f = true → Deep 48 f := look_deep
 unfold tyV at LK RG
 unfold fdV
 obtain ⟨q, hq⟩ : ∃ q, q = lookB n 48 f := ⟨_, rfl⟩
 rw [← hq] at LK hbad hD
 rw [hbad]
 generalize regsF 48 f = rs at RG ⊢
 have HK := Lib.hid (And.intro kb hb)
 have LK2 := Lib.hid LK
 have HW := Lib.hid hW
 have HRG := Lib.hid (fun (hq : q = true) V hk => RG V hk (hD hq))
 clear kb hb LK RG hW hq hbad hD ht hn
 generalize f.k = k at *
 generalize f.m = m at *
 generalize f.r = r at *
 generalize f.s = s at *
 generalize f.of.length = N at *
 go_enter Tryz.func67, Tryz.ntmps67
 go_upto_region 1 with fail
 rw [← HW.out]
 go_wp2_with fail
 refine LK2.out.mono ?_
 rintro e w1 ⟨rfl, k1⟩
 have K1 := Lib.hid k1
 cases q with
 | false =>
  clear k1 c1 c2 c3 c4 c5 cn
  go_wp2_with fail
  go_ret
  exact ⟨rfl, HK.out.1.trans K1.out⟩
 | true =>
  have d1 := k1.cell (p := ⟨w0.heap.size, 1, none⟩) (fun x => x) c1
  have d2 := k1.cell (p := ⟨w0.heap.size, 2, none⟩) (fun x => x) c2
  have d3 := k1.cell (p := ⟨w0.heap.size, 3, none⟩) (fun x => x) c3
  have d4 := k1.cell (p := ⟨w0.heap.size, 4, none⟩) (fun x => x) c4
  have d5 := k1.cell (p := ⟨w0.heap.size, 5, none⟩) (fun x => x) c5
  clear k1 c1 c2 c3 c4 c5 cn
  go_wp2_with fail
  refine (HRG.out trivial _ K1.out).mono ?_
  rintro e w2 ⟨v, rfl, ho, k2⟩
  obtain ⟨va, vc, e1, -⟩ := own_shape ho
  subst e1
  have K2 := Lib.hid k2
  clear k2 ho d1 d2 d3 d4 d5
  cases rs with
  | nil =>
   go_wp2_with fail
   go_ret
   exact ⟨rfl, HK.out.1.trans (K1.out.trans K2.out)⟩
  | cons x xs =>
   obtain ⟨M, hM⟩ : ∃ M, M = (x :: xs).length := ⟨_, rfl⟩
   rw [← hM]
   have h0 : (0 : Int) < (M : Int) := by rw [hM]; simp
   have h1 : 0 < M := by omega
   have h2 : decide ((0 : Int) < (M : Int)) = true := decide_eq_true h0
   clear hM
   go_wp2_with fail
   go_ret
   exact ⟨rfl, HK.out.1.trans (K1.out.trans K2.out)⟩
def IsFirst (n : Nat) (b : Nat → Bool) (k : Nat) : Prop := k ≤ n ∧ (∀ j, j < k → b j = false) ∧ (k < n → b k = true)
theorem any_getD {α : Type} {l : List α} {p : α → Bool} {d : α} {i : Nat} (hi : i < l.length) (h : p (l.getD i d) = true) : l.any p = true := by
 rw [List.any_eq_true]
 refine ⟨l.getD i d, ?_, h⟩
 rw [List.getD_eq_getElem?_getD, List.getElem?_eq_getElem hi]; exact List.getElem_mem hi
theorem any_none {α : Type} {l : List α} {p : α → Bool} {d : α} (h : ∀ i, i < l.length → p (l.getD i d) = false) : l.any p = false := by
 rw [List.any_eq_false]
 intro x hx
 obtain ⟨i, hi, rfl⟩ := List.getElem_of_mem hx
 have := h i hi
 rw [List.getD_eq_getElem?_getD, List.getElem?_eq_getElem hi] at this
 simpa using this
set_option maxRecDepth 100000 in
set_option maxHeartbeats 16000000 in
theorem ixFds_any (n nb : Nat) (l : List Ty) (hl : l.length ≤ 1000000) (a : Option Addr) (c : Nat) (w : World) (hn : w.heap[nb]? = some (.cells #[.int .i64 (n : Nat)] 3 (0, 0))) (h : FdsAt 49 w a l) :
  Calls Tryz.prog 89 #[.slice a l.length c, .func (.func 67) #[] #[.pointer (some ⟨nb, 0, none⟩)]] w fun e w' => ∃ k : Int, e = .returned (.int .i64 k) ∧ decide (0 ≤ k) = l.any (badF n) ∧ KB F0 w w' := by
 obtain ⟨w0, rfl⟩ : ∃ w0, w0 = w := ⟨_, rfl⟩
 obtain ⟨L, hL⟩ : ∃ L, L = l.length := ⟨_, rfl⟩
 rw [← hL] at hl ⊢
 have HH := Lib.hid (And.intro hn (And.intro h hL))
 clear hn h hL
 go_enter Tryz.func89, Tryz.ntmps89
 go_wp2_with fail
 go_loopw [8] (fun kv wr => ∃ k : Nat, k ≤ L ∧ kv = .int .i64 (k : Nat) ∧ Hid (KB F0 w0 wr ∧ ∀ j, j < k → badF n (l.getD j ty0) = false)) (fun kv _ => L - (intOf kv).toNat)
 case atStart => exact ⟨0, by omega, rfl, Lib.hid ⟨KB.refl _ _, fun j hj => by omega⟩⟩
 case round =>
  obtain ⟨k, hk, rfl, hst⟩ := hrel
  by_cases hlt : k < L
  ·have hkI : (k : Int) < (L : Int) := by omega
   have dk : decide ((k : Int) < (L : Int)) = true := decide_eq_true hkI
   obtain ⟨b, o, nm, a', c', rfl, hnm, hty, hta⟩ := HH.out.2.1 k (by rw [← HH.out.2.2]; exact hlt)
   have n0 := hst.out.1.cell (p := ⟨b, o + k * 6, none⟩) (fun x => x) hnm
   obtain ⟨t0, t1, t2, t3, t4⟩ := hty.kbF hst.out.1
   have CL := tyS1a_any n nb nm (l.getD k ty0) a' c' wr (hst.out.1.heap (fun x => x) HH.out.1) (hta.kbF hst.out.1)
   unfold fdV at CL
   obtain ⟨q, hq⟩ : ∃ q, q = badF n (l.getD k ty0) := ⟨_, rfl⟩
   rw [← hq] at CL
   have HQ := Lib.hid hq
   have CL2 := Lib.hid CL
   generalize l.getD k ty0 = f at t0 t1 t2 t3 t4 CL2
   clear hnm hty hta CL hq
   generalize f.k = fk at *
   generalize f.m = fm at *
   generalize f.r = fr at *
   generalize f.s = fs at *
   generalize f.of.length = N at *
   go_wp2_with fail
   refine CL2.out.mono ?_
   rintro e w1 ⟨rfl, k1⟩
   have K1 := Lib.hid (hst.out.1.trans k1)
   clear k1 n0 t0 t1 t2 t3 t4
   cases q with
   | true =>
    have HA : Hid (decide ((0 : Int) ≤ (k : Int)) = l.any (badF n)) := Lib.hid (by
     rw [any_getD (d := ty0) (by rw [← HH.out.2.2]; exact hlt) HQ.out.symm]
     exact decide_eq_true (by omega))
    go_wp2_with fail
    go_ret
    exact ⟨_, rfl, HA.out, K1.out⟩
   | false =>
    have HN : Hid (KB F0 w0 w1 ∧ ∀ j, j < k + 1 → badF n (l.getD j ty0) = false) := Lib.hid ⟨K1.out, fun j hj => by
     rcases Nat.lt_or_eq_of_le (Nat.lt_succ_iff.1 hj) with h1 | rfl
     ·exact hst.out.2 j h1
     ·exact HQ.out.symm⟩
    go_wp2_with fail
    exact ⟨⟨k + 1, by omega, by go_num, HN⟩, by simp [intOf]; omega⟩
  ·obtain rfl : k = L := by omega
   have dk : decide ((k : Int) < (k : Int)) = false := decide_eq_false (by omega)
   have HA : Hid (decide ((0 : Int) ≤ -1) = l.any (badF n)) := Lib.hid (by
    rw [any_none (d := ty0) (fun i hi => hst.out.2 i (by rw [HH.out.2.2]; exact hi))]
    exact decide_eq_false (by omega))
   have HK := Lib.hid hst.out.1
   clear hst
   go_wp2_with fail
   go_ret
   exact ⟨_, rfl, HA.out, HK.out⟩
set_option maxRecDepth 100000 in
set_option maxHeartbeats 16000000 in
theorem ctFds_any (n nb : Nat) (l : List Ty) (hl : l.length ≤ 1000000) (a : Option Addr) (c : Nat) (w : World) (hn : w.heap[nb]? = some (.cells #[.int .i64 (n : Nat)] 3 (0, 0))) (h : FdsAt 49 w a l) :
  Calls Tryz.prog 66 #[.slice a l.length c, .func (.func 67) #[] #[.pointer (some ⟨nb, 0, none⟩)]] w fun e w' => e = .returned (.bool (l.any (badF n))) ∧ KB F0 w w' := by
 obtain ⟨w0, rfl⟩ : ∃ w0, w0 = w := ⟨_, rfl⟩
 have IX := Lib.hid (ixFds_any n nb l hl a c w0 hn h)
 clear hn h hl
 generalize l.length = L at IX ⊢
 generalize l.any (badF n) = r at IX ⊢
 go_enter Tryz.func66, Tryz.ntmps66
 go_wp2_with fail
 refine IX.out.mono ?_
 rintro e w1 ⟨k, rfl, rfl, hk⟩
 have K := Lib.hid hk
 clear hk IX
 go_wp2_with fail
 all_goals
  go_ret
  exact ⟨ret_eq (by first | rfl | simp_all), K.out⟩

def ArrAt (w : World) (X : Nat) (M : List Bool) : Prop := w.heap[X]? = some (.cells (M.map Value.bool).toArray 161 (0, 0))
theorem ArrAt.cell {w : World} {X : Nat} {M : List Bool} (h : ArrAt w X M) {j : Nat} (hj : j < M.length) : w.cell? ⟨X, j, none⟩ = some (.bool (atB M j)) := by
 have h1 := blk_cell h j
 rw [h1]
 simp [atB, List.getD_eq_getElem?_getD, List.getElem?_eq_getElem hj]
theorem ArrAt.set {w : World} {X : Nat} {M : List Bool} (h : ArrAt w X M) (j : Nat) : ArrAt (w.setCell ⟨X, j, none⟩ (.bool true)) X (M.set j true) := by
 have h1 := setCell_blk (i := j) h (.bool true)
 unfold ArrAt
 rw [h1, List.map_set]
 simp
theorem ArrAt.kbF {w w' : World} {X : Nat} {M : List Bool} (h : ArrAt w X M) (hk : KB F0 w w') : ArrAt w' X M := hk.heap (fun x => x) h
structure QRow (w : World) (B : Nat) (v : Value) (ws : List Nat) (g o cap : Nat) : Prop where
 val : v = .slice (some ⟨g, o, none⟩) ws.length cap
 le : ws.length ≤ cap
 max : cap ≤ maxLen
 lo : B ≤ g
 at_ : ∀ j, j < ws.length → w.cell? ⟨g, o + j, none⟩ = some (.int .i64 (ws.getD j 0 : Nat))
 spare : ∀ j, j < cap → (w.cell? ⟨g, o + j, none⟩).isSome = true ∧ w.frozen? ⟨g, o + j, none⟩ = false
 ty : ∃ cur, w.heap[g]? = some (.cells cur 3 (0, 0))
def QS (w : World) (B : Nat) (k : Nat) : Prop := B ≤ k ∧ ∃ cur, w.heap[k]? = some (.cells cur 3 (0, 0))
theorem QRow.kb {w w' : World} {B : Nat} {v : Value} {ws : List Nat} {g o cap : Nat} (h : QRow w B v ws g o cap) {S : Nat → Prop} (hk : KB S w w') (hS : ¬ S g) : QRow w' B v ws g o cap := by
 obtain ⟨cur, hc⟩ := h.ty
 have hb : w'.heap[g]? = w.heap[g]? := by rw [hk.heap hS hc, hc]
 exact ⟨h.val, h.le, h.max, h.lo, fun j hj => by rw [World.cell?_of_block (w := w) hb]; exact h.at_ j hj, fun j hj => by
  rw [World.cell?_of_block (w := w) hb, World.frozen?_of_block (w := w) hb]; exact h.spare j hj, cur, by rw [hb]; exact hc⟩
theorem QRow.kbF {w w' : World} {B : Nat} {v : Value} {ws : List Nat} {g o cap : Nat} (h : QRow w B v ws g o cap) (hk : KB F0 w w') : QRow w' B v ws g o cap := h.kb hk (fun x => x)
theorem QRow.tail {w : World} {B : Nat} {v : Value} {u : Nat} {ws : List Nat} {g o cap : Nat} (h : QRow w B v (u :: ws) g o cap) (hc : cap ≠ 1) : QRow w B (.slice (some ⟨g, o + 1, none⟩) ws.length (cap - 1)) ws g (o + 1) (cap - 1) := by
 have hl := h.le
 simp only [List.length_cons] at hl
 refine ⟨rfl, by omega, by have := h.max; omega, h.lo, fun j hj => ?_, fun j hj => ?_, h.ty⟩
 ·have := h.at_ (j + 1) (by simp; omega)
  rw [show o + 1 + j = o + (j + 1) by omega, this]
  simp [List.getD_cons_succ]
 ·rw [show o + 1 + j = o + (j + 1) by omega]; exact h.spare (j + 1) (by omega)
theorem QRow.tail1 {w : World} {B : Nat} {v : Value} {u : Nat} {ws : List Nat} {g o : Nat} (h : QRow w B v (u :: ws) g o 1) : ws = [] ∧ QRow w B (.slice (some ⟨g, o, none⟩) 0 0) [] g o 0 := by
 have hl := h.le
 simp only [List.length_cons] at hl
 obtain rfl : ws = [] := List.eq_nil_of_length_eq_zero (by omega)
 exact ⟨rfl, rfl, Nat.le_refl _, by simp, h.lo, fun j hj => by simp at hj, fun j hj => by omega, h.ty⟩
theorem QRow.of_own {w : World} {B : Nat} {v : Value} {ws : List Nat} (h : w.ownsRow B 3 1 v ws.length (ws.map (fun n => Value.int .i64 (n : Nat)))) (hl : 0 < ws.length) : ∃ g cap, QRow w B v ws g 0 cap := by
 rcases h.2 with ⟨rfl, h0⟩ | ⟨g, cap, cur, rfl, hb, hh, hnc, hcm, hcur, htake⟩
 ·omega
 ·refine ⟨g, cap, rfl, hnc, hcm, hb, fun j hj => ?_, fun j hj => ?_, cur, hh⟩
  ·rw [Nat.zero_add, blk_cell hh j]
   have h1 : (cur.toList.take (ws.length * 1))[j]? = (ws.map (fun n => Value.int .i64 (n : Nat)))[j]? := by rw [htake]
   rw [List.getElem?_take_of_lt (by omega)] at h1
   simp only [Array.getElem?_toList] at h1
   rw [h1]
   simp [List.getD_eq_getElem?_getD, List.getElem?_eq_getElem hj]
  ·rw [Nat.zero_add, blk_cell hh j, blk_frozen hh j]
   exact ⟨by simp [Array.getElem?_eq_getElem (show j < cur.size by omega)], rfl⟩
theorem KB.oldS {S : Nat → Prop} {w0 w1 w' : World} (h : KB F0 w0 w1) (hk : KB S w1 w') (hS : ∀ k, k < w0.heap.size → ¬ S k) : KB F0 w0 w' :=
 ⟨hk.os.trans h.os, hk.tape.trans h.tape, hk.output.trans h.output, Nat.le_trans h.size hk.size, fun i hi _ => (hk.block i (Nat.lt_of_lt_of_le hi h.size) (hS i hi)).trans (h.block i hi (fun x => x))⟩
theorem KB.oldQ {B : Nat} {w0 w1 w' : World} (h : KB F0 w0 w1) (hk : KB (QS w1 B) w1 w') (hB : w0.heap.size ≤ B) : KB F0 w0 w' := h.oldS hk (fun k hk h => by have := h.1; omega)
theorem ArrAt.kbQ {w w' : World} {X B : Nat} {M : List Bool} (h : ArrAt w X M) (hk : KB (QS w B) w w') : ArrAt w' X M := hk.heap (fun ⟨_, cur, hc⟩ => by
 have h2 : w.heap[X]? = some (.cells (M.map Value.bool).toArray 161 (0, 0)) := h
 rw [h2] at hc
 simp only [Option.some.injEq, Obj.cells.injEq] at hc
 exact absurd hc.2.1 (by decide)) h
theorem appQ {ops : Array Oper} {rest : List Oper} {o : Oper} {a : Act} {Q : Exit → Act → World → Prop} {w : World} {B : Nat} {v : Value} {ws : List Nat} {g off cap : Nat} (hq : QRow w B v ws g off cap) {s x : Operand} {nb c : Nat} (u : Nat) (hgd : o.guard = none)
  (ho : o.op = .call { callee := .builtin .append, args := #[s, x], argTypes := #[40, 40] }) (hs : a.eval s = v) (hx : a.eval x = .slice (some ⟨nb, 0, none⟩) 1 c) (hu : w.cell? ⟨nb, 0, none⟩ = some (.int .i64 (u : Nat))) (hl : ws.length ≤ 1000) (hB : B ≤ w.heap.size)
  (h : ∀ v' w' g' o' cap', QRow w' B v' (ws ++ [u]) g' o' cap' → KB (QS w B) w w' → wpList Tryz.prog ops Q rest (a.put o.dst v') w') : wpList Tryz.prog ops Q (o :: rest) a w := by
 obtain ⟨i, hi, hz0, hz1, hz2⟩ := info_parts Tryz.infoIntV
 have hv := hq.val
 subst hv
 have holds : ∀ j y, (ws.map (fun n => Value.int .i64 (n : Nat)))[j]? = some y → w.cell? ⟨g, off + j, none⟩ = some y := fun j y hj => by
  have hjl : j < ws.length := by
   have := (List.getElem?_eq_some_iff.1 hj).1
   simpa using this
  rw [hq.at_ j hjl]
  simp [List.getElem?_eq_getElem hjl] at hj
  simp [List.getD_eq_getElem?_getD, List.getElem?_eq_getElem hjl, hj]
 refine wpList_append_arg w hgd s x 40 ho 3 i _ 1 8 Tryz.underlying40 hi hz0 hz1 hz2 rfl (by decide) g off ws.length cap (ws.map (fun n => Value.int .i64 (n : Nat))) hs (by simp) holds ⟨nb, 0, none⟩ 1 c [.int .i64 (u : Nat)] hx rfl ?_ ?_ ?_ (by unfold maxLen; omega) (by omega) ?_ ?_
 ·intro j y hj
  cases j with
  | zero =>
   simp only [List.getElem?_cons_zero, Option.some.injEq] at hj
   rw [← hj, show ((⟨nb, 0, none⟩ : Addr).add 0) = ⟨nb, 0, none⟩ from rfl]
   exact hu
  | succ j => simp at hj
 ·intro y hy
  simp only [List.mem_cons, List.not_mem_nil, or_false] at hy
  subst hy; rfl
 ·intro hr j hj
  simp only [List.length_cons, List.length_nil] at hj
  obtain rfl : j = 0 := by omega
  rw [Nat.mul_one, Nat.add_zero]
  exact hq.spare ws.length (by omega)
 ·intro hr
  obtain ⟨cur, hcur⟩ := hq.ty
  have hset : w.setCells g (off + ws.length * 1) [Value.int .i64 (u : Nat)] = w.setCell ⟨g, off + ws.length, none⟩ (.int .i64 (u : Nat)) := by
   rw [Nat.mul_one]; rfl
  rw [hset]
  have hsz : off + ws.length < cur.size := by
   have := (hq.spare ws.length (by omega)).1
   rw [blk_cell hcur] at this
   simpa using this
  have hb := setCell_blk (i := off + ws.length) hcur (.int .i64 (u : Nat))
  refine h _ _ g off cap ⟨by simp, by simpa using hr, hq.max, hq.lo, fun j hj => ?_, fun j hj => ?_, _, hb⟩ ?_
  ·rw [blk_cell hb, Array.getElem?_setIfInBounds]
   simp only [List.length_append, List.length_cons, List.length_nil] at hj
   by_cases he : j = ws.length
   ·subst he
    simp [hsz, List.getD_eq_getElem?_getD]
   ·rw [if_neg (by omega)]
    have h1 := hq.at_ j (by omega)
    rw [blk_cell hcur] at h1
    rw [h1]
    simp [List.getD_eq_getElem?_getD, List.getElem?_append_left (show j < ws.length by omega)]
  ·rw [blk_cell hb, blk_frozen hb]
   refine ⟨?_, rfl⟩
   have := (hq.spare j hj).1
   rw [blk_cell hcur] at this
   simpa using this
  ·exact (KB.refl _ _).setCell (p := ⟨g, off + ws.length, none⟩) (fun _ => ⟨hq.lo, cur, hcur⟩) _
 ·intro hr v' w' hown hgr
  have hown2 : w'.ownsRow B 3 1 v' (ws ++ [u]).length ((ws ++ [u]).map (fun n => Value.int .i64 (n : Nat))) := by
   rw [List.length_append, List.map_append]
   exact own_base hown hB
  obtain ⟨g', cap', hq'⟩ := QRow.of_own hown2 (by simp)
  exact h v' w' g' 0 cap' hq' (KB.of_grown hgr (fun k hk => by cases hk))
end Go.Proofs.YtaeppaaolkcbbaaGreatDoor

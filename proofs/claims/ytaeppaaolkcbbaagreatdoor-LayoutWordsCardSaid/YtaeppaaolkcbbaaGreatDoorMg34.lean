/- graph.head. -/
import Derived.Test.YtaeppaaolkcbbaaGreatDoorMg32
import Derived.Test.YtaeppaaolkcbbaaGreatDoorMg25
import Derived.Test.YtaeppaaolkcbbaaGreatDoorMg33
namespace Go.Proofs.YtaeppaaolkcbbaaGreatDoor
open Go.RowKit

def regOk (lo lv : Int) (t : Ty) : Prop := ∀ r ∈ regX t, lo ≤ r ∧ r < lv
def lowOf (np : Int) (i : Nat) : Int := if (i : Int) ≤ np then 0 else -1
def HeadN (g : Gr) : Prop := 0 ≤ g.lives ∧ g.lives ≤ 8 ∧ 0 ≤ g.params ∧ g.params ≤ 8 ∧ g.params < g.locals.length ∧ g.locals.length ≤ 512 ∧ g.names.length = g.locals.length
def HeadL (S : List (List Ty)) (g : Gr) (l : List Ty) : Prop := ∀ i (h : i < l.length), MayT S l[i] ∧ regOk (lowOf g.params i) g.lives l[i]
def loansN (l : List Pt) : Nat := (l.filter fun p => decide (p.op = 4)).length
def HeadP (S : List (List Ty)) (g : Gr) (fn mn : Int) : Prop := HeadN g ∧ HeadL S g g.locals ∧ (1 ≤ g.points.length ∧ g.points.length ≤ 1024) ∧ OutP g ∧ loansN g.points ≤ 256 ∧ (fn ≠ mn ∨ (g.lives = 0 ∧ g.params = 0 ∧ (g.locals.getD 0 ty0).k = 1))
def HeadEnd (S : List (List Ty)) (g : Gr) (fn mn : Int) (w : World) (e : Ending) (w' : World) : Prop := ∃ ok : Bool, e = .returned (.bool ok) ∧ (ok = true ↔ HeadP S g fn mn) ∧ KB F0 w w'
theorem headL_snoc {S : List (List Ty)} {g : Gr} {l m : List Ty} {t : Ty} (h : HeadL S g l) (hm : m = l ++ [t]) (ht : MayT S t) (hr : regOk (lowOf g.params l.length) g.lives t) : HeadL S g m := by
 subst hm
 intro i hi
 rw [List.length_append, List.length_singleton] at hi
 by_cases hl : i < l.length
 ·rw [List.getElem_append_left hl]; exact h i hl
 ·obtain rfl : i = l.length := by omega
  rw [List.getElem_append_right (by omega)]
  simpa using ⟨ht, hr⟩
theorem regsF_small : ∀ (n : Nat) (t : Ty), (regsF n t).length ≤ n := by
 intro n
 induction n with
 | zero => intro t; exact Nat.le_refl _
 | succ n ih =>
  intro t
  have h := ih (in0 t)
  unfold regsF
  rw [List.length_append]
  split <;> split <;> simp <;> omega
theorem regX_small (t : Ty) : (regX t).length ≤ 1000000 := by
 unfold regX
 split
 ·exact Nat.le_trans (regsF_small 48 t) (by omega)
 ·simp
theorem loansN_snoc (l : List Pt) (j : Nat) (h : j < l.length) : loansN (l.take (j + 1)) = loansN (l.take j) + (if l[j].op = 4 then 1 else 0) := by
 unfold loansN
 rw [List.take_add_one, List.getElem?_eq_getElem h, Option.toList_some, List.filter_append, List.length_append]
 by_cases h4 : l[j].op = 4 <;> simp [h4]
theorem loansN_le (l : List Pt) (j : Nat) : loansN (l.take j) ≤ j := by
 unfold loansN
 exact Nat.le_trans (List.length_filter_le _ _) (by rw [List.length_take]; omega)
theorem headEnd_no {S : List (List Ty)} {g : Gr} {fn mn : Int} {w w' : World} (h : ¬ HeadP S g fn mn) (hk : KB F0 w w') : HeadEnd S g fn mn w (.returned (.bool false)) w' := ⟨false, rfl, Iff.intro (fun e => absurd e (by decide)) (fun e => absurd e h), hk⟩
set_option maxRecDepth 100000 in
set_option maxHeartbeats 64000000 in
theorem grHead_any (S : List (List Ty)) (Fs : List Gr) (u : AskA) (w : World) (hn : S.length ≤ 1000000) (hl : ∀ i, (fds S i).length ≤ 1000000) (hsc : S.length ≤ u.sc) (hS : StsAt 49 w u.sa S) (hF : FnsAt w u.fa Fs) (hfn : Fs.length ≤ 1000000) (k : Nat) (hk : k < Fs.length) :
  Calls Tryz.prog 104 #[.agg #[.slice u.sa S.length u.sc, .slice u.fa Fs.length u.fc, .int .i64 u.mn], .int .i64 (k : Nat)] w (HeadEnd S Fs[k] (k : Nat) u.mn w) := by
 obtain ⟨w0, rfl⟩ : ∃ w0, w0 = w := ⟨_, rfl⟩
 obtain ⟨fb, fo, d, hfa, hfc, hG⟩ := hF k hk
 obtain ⟨g, hg⟩ : ∃ g, g = Fs[k] := ⟨_, rfl⟩
 rw [← hg] at hfc hG ⊢
 obtain ⟨NF, hNF⟩ : ∃ n, n = Fs.length := ⟨_, rfl⟩
 obtain ⟨NS, hNS⟩ : ∃ n, n = S.length := ⟨_, rfl⟩
 obtain ⟨NL, hNL⟩ : ∃ n, n = g.locals.length := ⟨_, rfl⟩
 obtain ⟨NP, hNP⟩ : ∃ n, n = g.points.length := ⟨_, rfl⟩
 obtain ⟨NN, hNN⟩ : ∃ n, n = g.names.length := ⟨_, rfl⟩
 obtain ⟨NO, hNO⟩ : ∃ n, n = g.outs.length := ⟨_, rfl⟩
 obtain ⟨W, hW⟩ : ∃ W, W = w0.alloc (.cells #[.slice u.sa NS u.sc, .slice (some ⟨fb, fo, none⟩) NF u.fc, .int .i64 u.mn] 49) := ⟨_, rfl⟩
 have kW : KB F0 w0 W := by rw [hW]; exact (KB.refl _ _).alloc _
 have bW : W.heap[w0.heap.size]? = some (.cells #[.slice u.sa NS u.sc, .slice (some ⟨fb, fo, none⟩) NF u.fc, .int .i64 u.mn] 49 (0, 0)) := by rw [hW]; exact alloc_new _ _
 have hsz : W.heap.size = w0.heap.size + 1 := by rw [hW]; simp
 have u1 : W.cell? ⟨w0.heap.size, 1, none⟩ = some (.slice (some ⟨fb, fo, none⟩) NF u.fc) := blk_cell bW 1
 have hc : ∀ j v, (grCs g d)[j]? = some v → W.cell? ⟨fb, fo + k * 7 + j, none⟩ = some v := fun j v hv => by
  have hj : j < 7 := by
   have := (List.getElem?_eq_some_iff.1 hv).1
   exact this
  have h := hfc j hj
  rw [hv] at h
  exact kW.cell (p := ⟨fb, fo + k * 7 + j, none⟩) (fun x => x) h
 have q0 : W.cell? ⟨fb, fo + k * 7, none⟩ = some (.string g.name) := hc 0 _ rfl
 have q1 : W.cell? ⟨fb, fo + k * 7 + 1, none⟩ = some (.int .i64 g.lives) := hc 1 _ rfl
 have q2 : W.cell? ⟨fb, fo + k * 7 + 2, none⟩ = some (.slice d.oa NO d.oc) := by rw [hNO]; exact hc 2 _ rfl
 have q3 : W.cell? ⟨fb, fo + k * 7 + 3, none⟩ = some (.int .i64 g.params) := hc 3 _ rfl
 have q4 : W.cell? ⟨fb, fo + k * 7 + 4, none⟩ = some (.slice d.la NL d.lc) := by rw [hNL]; exact hc 4 _ rfl
 have q5 : W.cell? ⟨fb, fo + k * 7 + 5, none⟩ = some (.slice d.na NN d.nc) := by rw [hNN]; exact hc 5 _ rfl
 have q6 : W.cell? ⟨fb, fo + k * 7 + 6, none⟩ = some (.slice d.pa NP d.pc) := by rw [hNP]; exact hc 6 _ rfl
 have hkF : k < NF := by rw [hNF]; exact hk
 have hkI : (k : Int) < (NF : Int) := by omega
 rw [hfa, ← hNF, ← hNS]
 have HW := Lib.hid hW
 have HH := Lib.hid (And.intro hG (And.intro hNL (And.intro hNP (And.intro hNN (And.intro hNO (And.intro hNS (And.intro hS (And.intro hn (And.intro hl hsc)))))))))
 have HB := Lib.hid (And.intro kW bW)
 clear hW kW bW hc hfc hfa hF hg hG hNL hNP hNN hNO hNS hNF hk hS hn hl hsc hfn
 go_enter Tryz.func104, Tryz.ntmps104
 go_upto_region 1 with fail
 rw [← HW.out]
 go_upto_region 2 with fail
 obtain ⟨W2, hW2⟩ : ∃ W2, W2 = W.alloc (.cells #[.string g.name, .int .i64 g.lives, .slice d.oa NO d.oc, .int .i64 g.params, .slice d.la NL d.lc, .slice d.na NN d.nc, .slice d.pa NP d.pc] 88) := ⟨_, rfl⟩
 have k2 : KB F0 W W2 := by rw [hW2]; exact (KB.refl _ _).alloc _
 have b2 : W2.heap[w0.heap.size + 1]? = some (.cells #[.string g.name, .int .i64 g.lives, .slice d.oa NO d.oc, .int .i64 g.params, .slice d.la NL d.lc, .slice d.na NN d.nc, .slice d.pa NP d.pc] 88 (0, 0)) := by rw [hW2, ← hsz]; exact alloc_new _ _
 rw [← hW2]
 have H2 := Lib.hid (And.intro (HB.out.1.trans k2) (And.intro (k2.heap (fun x => x) HB.out.2) b2))
 have c1 : W2.cell? ⟨w0.heap.size + 1, 1, none⟩ = some (.int .i64 g.lives) := blk_cell b2 1
 have c3 : W2.cell? ⟨w0.heap.size + 1, 3, none⟩ = some (.int .i64 g.params) := blk_cell b2 3
 have c4 : W2.cell? ⟨w0.heap.size + 1, 4, none⟩ = some (.slice d.la NL d.lc) := blk_cell b2 4
 have c5 : W2.cell? ⟨w0.heap.size + 1, 5, none⟩ = some (.slice d.na NN d.nc) := blk_cell b2 5
 clear hW2 k2 b2 q0 q1 q2 q3 q4 q5 q6 u1
 by_cases n0 : g.lives < 0
 ·have HNO : Hid (¬ HeadP S g (k : Nat) u.mn) := Lib.hid (fun h => by have h1 := h.1.1; have h2 := HH.out.2.1; have h3 := HH.out.2.2.2.1; omega)
  have d00 : decide (g.lives < 0) = true := decide_eq_true (by omega)
  go_wp2_with fail
  all_goals
   go_ret
   exact headEnd_no HNO.out H2.out.1
 have d00 : decide (g.lives < 0) = false := decide_eq_false (by omega)
 replace n0 : ¬ (g.lives < 0) := n0
 by_cases n1 : 8 < g.lives
 ·have HNO : Hid (¬ HeadP S g (k : Nat) u.mn) := Lib.hid (fun h => by have h1 := h.1.2.1; have h2 := HH.out.2.1; have h3 := HH.out.2.2.2.1; omega)
  have d10 : decide (8 < g.lives) = true := decide_eq_true (by omega)
  go_wp2_with fail
  all_goals
   go_ret
   exact headEnd_no HNO.out H2.out.1
 have d10 : decide (8 < g.lives) = false := decide_eq_false (by omega)
 replace n1 : ¬ (8 < g.lives) := n1
 by_cases n2 : g.params < 0
 ·have HNO : Hid (¬ HeadP S g (k : Nat) u.mn) := Lib.hid (fun h => by have h1 := h.1.2.2.1; have h2 := HH.out.2.1; have h3 := HH.out.2.2.2.1; omega)
  have d20 : decide (g.params < 0) = true := decide_eq_true (by omega)
  go_wp2_with fail
  all_goals
   go_ret
   exact headEnd_no HNO.out H2.out.1
 have d20 : decide (g.params < 0) = false := decide_eq_false (by omega)
 replace n2 : ¬ (g.params < 0) := n2
 by_cases n3 : 8 < g.params
 ·have HNO : Hid (¬ HeadP S g (k : Nat) u.mn) := Lib.hid (fun h => by have h1 := h.1.2.2.2.1; have h2 := HH.out.2.1; have h3 := HH.out.2.2.2.1; omega)
  have d30 : decide (8 < g.params) = true := decide_eq_true (by omega)
  go_wp2_with fail
  all_goals
   go_ret
   exact headEnd_no HNO.out H2.out.1
 have d30 : decide (8 < g.params) = false := decide_eq_false (by omega)
 replace n3 : ¬ (8 < g.params) := n3
 by_cases n4 : (NL : Int) ≤ g.params
 ·have HNO : Hid (¬ HeadP S g (k : Nat) u.mn) := Lib.hid (fun h => by have h1 := h.1.2.2.2.2.1; have h2 := HH.out.2.1; have h3 := HH.out.2.2.2.1; omega)
  have d40 : decide ((NL : Int) ≤ g.params) = true := decide_eq_true (by omega)
  go_wp2_with fail
  all_goals
   go_ret
   exact headEnd_no HNO.out H2.out.1
 have d40 : decide ((NL : Int) ≤ g.params) = false := decide_eq_false (by omega)
 replace n4 : ¬ ((NL : Int) ≤ g.params) := n4
 by_cases n5 : 512 < NL
 ·have HNO : Hid (¬ HeadP S g (k : Nat) u.mn) := Lib.hid (fun h => by have h1 := h.1.2.2.2.2.2.1; have h2 := HH.out.2.1; have h3 := HH.out.2.2.2.1; omega)
  have d50 : decide ((512 : Int) < (NL : Int)) = true := decide_eq_true (by omega)
  have d51 : decide (512 < NL) = true := decide_eq_true (by omega)
  go_wp2_with fail
  all_goals
   go_ret
   exact headEnd_no HNO.out H2.out.1
 have d50 : decide ((512 : Int) < (NL : Int)) = false := decide_eq_false (by omega)
 have d51 : decide (512 < NL) = false := decide_eq_false (by omega)
 by_cases n6 : NN ≠ NL
 ·have HNO : Hid (¬ HeadP S g (k : Nat) u.mn) := Lib.hid (fun h => by have h1 := h.1.2.2.2.2.2.2; have h2 := HH.out.2.1; have h3 := HH.out.2.2.2.1; omega)
  have nn : ¬ (NN : Int) = (NL : Int) := by omega
  go_wp2_with fail
  all_goals
   go_ret
   exact headEnd_no HNO.out H2.out.1
 have HN : Hid (HeadN g) := Lib.hid (by
  have h2 := HH.out.2.1
  have h3 := HH.out.2.2.2.1
  exact ⟨by omega, by omega, by omega, by omega, by omega, by omega, by omega⟩)
 obtain rfl : NN = NL := by omega
 clear n0 n1 n2 n3 n4 n5 n6
 go_upto_region 5 with fail
 have hb5 : NN ≤ 512 := by have h1 := HN.out.2.2.2.2.2.1; have h2 := HH.out.2.1; omega
 go_loopw [61] (fun kv wr => ∃ i : Nat, i ≤ NN ∧ kv = .int .i64 (i : Nat) ∧ Hid (KB F0 W2 wr ∧ HeadL S g (g.locals.take i))) (fun kv _ => NN - (intOf kv).toNat)
 case atStart => exact ⟨0, by omega, rfl, Lib.hid ⟨KB.refl _ _, fun i h => by simp at h⟩⟩
 case round =>
  obtain ⟨i, hi, rfl, hst⟩ := hrel
  have HK0 := Lib.hid (H2.out.1.trans hst.out.1)
  by_cases hlt : i < NN
  ·have hiI : (i : Int) < (NN : Int) := by omega
   have dk : decide ((i : Int) < (NN : Int)) = true := decide_eq_true hiI
   have hiL : i < g.locals.length := by rw [← HH.out.2.1]; exact hlt
   obtain ⟨tb, tf, ta, tc, hla, hty, hta⟩ := (HH.out.1.locals.kbF HK0.out) i hiL
   have e2 : g.locals.getD i ty0 = g.locals[i] := by rw [List.getD_eq_getElem?_getD, List.getElem?_eq_getElem hiL]; rfl
   rw [e2] at hty hta
   obtain ⟨t, ht⟩ : ∃ t, t = g.locals[i] := ⟨_, rfl⟩
   rw [← ht] at hty hta
   rw [hla]
   obtain ⟨t0, t1, t2, t3, t4⟩ := hty
   have HTE := Lib.hid ht
   have HTK : Hid (g.locals.take (i + 1) = g.locals.take i ++ [t]) := Lib.hid (by rw [List.take_add_one, List.getElem?_eq_getElem hiL, ht]; rfl)
   clear ht e2
   go_upto_region 7 with fail
   obtain ⟨w2, h2⟩ : ∃ w2, w2 = wr.alloc (.cells #[.int .u8 t.k, .bool t.m, .int .i64 t.r, .int .i64 t.s, .slice ta t.of.length tc] 26) := ⟨_, rfl⟩
   obtain ⟨kt, bt⟩ := boxTy wr t ta tc
   rw [← h2] at kt bt ⊢
   obtain ⟨B7, hB7⟩ : ∃ n, n = wr.heap.size := ⟨_, rfl⟩
   rw [← hB7] at bt ⊢
   clear h2 t0 t1 t2 t3 t4 hB7
   obtain ⟨t0, t1, t2, t3, t4⟩ := TyCells.of_block bt
   simp only [Nat.zero_add] at t0 t1 t2 t3 t4
   have s0 : w2.cell? ⟨w0.heap.size, 0, none⟩ = some (.slice u.sa NS u.sc) := blk_cell ((hst.out.1.trans kt).heap (fun x => x) H2.out.2.1) 0
   have MY := Lib.hid (tyMay_any S HH.out.2.2.2.2.2.2.2.1 HH.out.2.2.2.2.2.2.2.2.1 u.sa u.sc HH.out.2.2.2.2.2.2.2.2.2 t ta tc w2 (HH.out.2.2.2.2.2.2.1.kbF (HK0.out.trans kt)) (hta.kbF kt))
   rw [← HH.out.2.2.2.2.2.1] at MY
   unfold tyV at MY
   have H3 := Lib.hid (And.intro (hst.out.1.trans kt) (And.intro bt (hta.kbF kt)))
   clear kt bt hta
   go_wp2_with fail
   refine MY.out.mono ?_
   rintro e w3 ⟨ok, rfl, hok, k3⟩
   have H4 := Lib.hid (And.intro (H3.out.1.trans k3) (And.intro (k3.heap (fun x => x) H3.out.2.1) (And.intro (H3.out.2.2.kbF k3) hok)))
   have HKF := Lib.hid (H2.out.1.trans (H3.out.1.trans k3))
   clear k3 hok MY s0 t0 t1 t2 t3 t4
   cases ok with
   | false =>
    have HNO : Hid (¬ HeadP S g (k : Nat) u.mn) := Lib.hid (fun h => by
     have h1 := (h.2.1 i hiL).1
     rw [← HTE.out] at h1
     exact absurd (H4.out.2.2.2.2 h1) (by decide))
    go_wp2_with fail
    all_goals
     go_ret
     exact headEnd_no HNO.out HKF.out
   | true =>
    have HMT : Hid (MayT S t) := Lib.hid (H4.out.2.2.2.1 (by first | rfl | trivial))
    go_upto_region 10 with fail
    obtain ⟨w4, h4⟩ : ∃ w4, w4 = w3.alloc (.cells #[.int .i64 (-1)] 3) := ⟨_, rfl⟩
    have kz : KB F0 w3 w4 := by rw [h4]; exact (KB.refl _ _).alloc _
    have b8 : w4.heap[w3.heap.size]? = some (.cells #[.int .i64 (-1)] 3 (0, 0)) := by rw [h4]; exact alloc_new _ _
    rw [← h4]
    obtain ⟨B8, hB8⟩ : ∃ n, n = w3.heap.size := ⟨_, rfl⟩
    rw [← hB8] at b8 ⊢
    have HB8 := Lib.hid hB8
    clear hB8
    have g3 : w4.cell? ⟨w0.heap.size + 1, 3, none⟩ = some (.int .i64 g.params) := blk_cell ((H4.out.1.trans kz).heap (fun x => x) H2.out.2.2) 3
    clear h4
    by_cases hlo : (i : Int) ≤ g.params
    ·as_aux_lemma =>
     have dlo : decide ((i : Int) ≤ g.params) = true := decide_eq_true hlo
     have HLO := Lib.hid hlo
     have v0 : w4.cell? ⟨B8, 0, none⟩ = some (.int .i64 (-1)) := blk_cell b8 0
     have f0 := blk_frozen b8 0
     go_upto_region 12 with fail
     obtain ⟨w5, h5⟩ : ∃ w5, w5 = w4.setCell ⟨B8, 0, none⟩ (.int .i64 0) := ⟨_, rfl⟩
     have k5 : KB F0 w3 w5 := by rw [h5]; exact kb_new kz (by rw [HB8.out]; exact Nat.le_refl _) 0 _
     have b8z : w5.heap[B8]? = some (.cells #[.int .i64 0] 3 (0, 0)) := by rw [h5]; exact setCell_blk (i := 0) b8 _
     rw [← h5]
     clear h5 v0 f0 g3 b8 kz dlo
     have kz := k5
     clear k5
     have t0 : w5.cell? ⟨B7, 0, none⟩ = some (.int .u8 t.k) := blk_cell (kz.heap (fun x => x) H4.out.2.1) 0
     have t1 : w5.cell? ⟨B7, 1, none⟩ = some (.bool t.m) := blk_cell (kz.heap (fun x => x) H4.out.2.1) 1
     have t2 : w5.cell? ⟨B7, 2, none⟩ = some (.int .i64 t.r) := blk_cell (kz.heap (fun x => x) H4.out.2.1) 2
     have t3 : w5.cell? ⟨B7, 3, none⟩ = some (.int .i64 t.s) := blk_cell (kz.heap (fun x => x) H4.out.2.1) 3
     have t4 : w5.cell? ⟨B7, 4, none⟩ = some (.slice ta t.of.length tc) := blk_cell (kz.heap (fun x => x) H4.out.2.1) 4
     have RG := Lib.hid (tyRegions_any t ta tc w5 (H4.out.2.2.1.kbF kz))
     have H6 := Lib.hid (And.intro (H4.out.1.trans kz) b8z)
     unfold tyV at RG
     clear kz b8z
     go_wp2_with fail
     refine RG.out.mono ?_
     rintro e w6 ⟨v, rfl, hown, k6⟩
     obtain ⟨ga, gc, rfl, hgc, hints, -⟩ := regW_own (l := regX t) (Nat.le_refl _) hown
     have hll : (regX t).length ≤ 1000000 := regX_small t
     have CT := Lib.hid (ctIntsF_any 132 #[.pointer (some ⟨B8, 0, none⟩), .pointer (some ⟨w0.heap.size + 1, 0, none⟩)] (lyEn (fn := Tryz.f132) Tryz.func132 (by decide) (fun e => by cases e)) (fun x => decide (x < 0) || decide (g.lives ≤ x)) (regX t) hll ga gc w6
      (fun x V hV => (grHead1_any x (0) g.lives B8 (w0.heap.size + 1) V (blk_cell ((k6.trans hV).heap (fun x => x) H6.out.2) 0) (blk_cell ((H6.out.1.trans (k6.trans hV)).heap (fun x => x) H2.out.2.2) 1)).mono (fun e w' h => ⟨h.1, by rw [h.2]; exact KB.refl _ _⟩)) hints)
     obtain ⟨rn, hrn⟩ : ∃ n, n = (regX t).length := ⟨_, rfl⟩
     rw [← hrn] at CT ⊢
     obtain ⟨bad, hbad⟩ : ∃ b, b = (regX t).any (fun x => decide (x < 0) || decide (g.lives ≤ x)) := ⟨_, rfl⟩
     rw [← hbad] at CT
     have HBAD := Lib.hid hbad
     have H7 := Lib.hid (H6.out.1.trans k6)
     clear hown hints k6 hgc hll hrn hbad t0 t1 t2 t3 t4 RG
     go_wp2_with fail
     refine CT.out.mono ?_
     rintro e w7 ⟨rfl, k7⟩
     have H8 := Lib.hid (H7.out.trans k7)
     have HK8 := Lib.hid (H2.out.1.trans (H7.out.trans k7))
     clear k7 CT
     cases bad with
     | true =>
      have HNO : Hid (¬ HeadP S g (k : Nat) u.mn) := Lib.hid (fun h => by
       have h1 := (h.2.1 i hiL).2
       rw [← HTE.out, show lowOf g.params i = 0 by exact if_pos HLO.out] at h1
       obtain ⟨x, hx, hq⟩ := List.any_eq_true.1 HBAD.out.symm
       have h2 := h1 x hx
       simp only [Bool.or_eq_true, decide_eq_true_eq] at hq
       omega)
      go_wp2_with fail
      all_goals
       go_ret
       exact headEnd_no HNO.out HK8.out
     | false =>
      have HN2 : Hid (KB F0 W2 w7 ∧ HeadL S g (g.locals.take (i + 1))) := Lib.hid ⟨H8.out, headL_snoc hst.out.2 HTK.out HMT.out (by
       rw [show (g.locals.take i).length = i by rw [List.length_take]; omega, show lowOf g.params i = 0 by exact if_pos HLO.out]
       intro x hx
       have h := List.any_eq_false.1 HBAD.out.symm x hx
       simp only [Bool.or_eq_true, decide_eq_true_eq, not_or] at h
       omega)⟩
      go_wp2_with fail
      exact ⟨⟨i + 1, by omega, by go_num, HN2⟩, by simp [intOf]; omega⟩
    ·as_aux_lemma =>
     have dlo : decide ((i : Int) ≤ g.params) = false := decide_eq_false hlo
     have HLO := Lib.hid hlo
     go_upto_region 12 with fail
     have b8z := b8
     clear g3 b8 dlo
     have t0 : w4.cell? ⟨B7, 0, none⟩ = some (.int .u8 t.k) := blk_cell (kz.heap (fun x => x) H4.out.2.1) 0
     have t1 : w4.cell? ⟨B7, 1, none⟩ = some (.bool t.m) := blk_cell (kz.heap (fun x => x) H4.out.2.1) 1
     have t2 : w4.cell? ⟨B7, 2, none⟩ = some (.int .i64 t.r) := blk_cell (kz.heap (fun x => x) H4.out.2.1) 2
     have t3 : w4.cell? ⟨B7, 3, none⟩ = some (.int .i64 t.s) := blk_cell (kz.heap (fun x => x) H4.out.2.1) 3
     have t4 : w4.cell? ⟨B7, 4, none⟩ = some (.slice ta t.of.length tc) := blk_cell (kz.heap (fun x => x) H4.out.2.1) 4
     have RG := Lib.hid (tyRegions_any t ta tc w4 (H4.out.2.2.1.kbF kz))
     have H6 := Lib.hid (And.intro (H4.out.1.trans kz) b8z)
     unfold tyV at RG
     clear kz b8z
     go_wp2_with fail
     refine RG.out.mono ?_
     rintro e w6 ⟨v, rfl, hown, k6⟩
     obtain ⟨ga, gc, rfl, hgc, hints, -⟩ := regW_own (l := regX t) (Nat.le_refl _) hown
     have hll : (regX t).length ≤ 1000000 := regX_small t
     have CT := Lib.hid (ctIntsF_any 132 #[.pointer (some ⟨B8, 0, none⟩), .pointer (some ⟨w0.heap.size + 1, 0, none⟩)] (lyEn (fn := Tryz.f132) Tryz.func132 (by decide) (fun e => by cases e)) (fun x => decide (x < -1) || decide (g.lives ≤ x)) (regX t) hll ga gc w6
      (fun x V hV => (grHead1_any x (-1) g.lives B8 (w0.heap.size + 1) V (blk_cell ((k6.trans hV).heap (fun x => x) H6.out.2) 0) (blk_cell ((H6.out.1.trans (k6.trans hV)).heap (fun x => x) H2.out.2.2) 1)).mono (fun e w' h => ⟨h.1, by rw [h.2]; exact KB.refl _ _⟩)) hints)
     obtain ⟨rn, hrn⟩ : ∃ n, n = (regX t).length := ⟨_, rfl⟩
     rw [← hrn] at CT ⊢
     obtain ⟨bad, hbad⟩ : ∃ b, b = (regX t).any (fun x => decide (x < -1) || decide (g.lives ≤ x)) := ⟨_, rfl⟩
     rw [← hbad] at CT
     have HBAD := Lib.hid hbad
     have H7 := Lib.hid (H6.out.1.trans k6)
     clear hown hints k6 hgc hll hrn hbad t0 t1 t2 t3 t4 RG
     go_wp2_with fail
     refine CT.out.mono ?_
     rintro e w7 ⟨rfl, k7⟩
     have H8 := Lib.hid (H7.out.trans k7)
     have HK8 := Lib.hid (H2.out.1.trans (H7.out.trans k7))
     clear k7 CT
     cases bad with
     | true =>
      have HNO : Hid (¬ HeadP S g (k : Nat) u.mn) := Lib.hid (fun h => by
       have h1 := (h.2.1 i hiL).2
       rw [← HTE.out, show lowOf g.params i = -1 by exact if_neg (by have := HLO.out; omega)] at h1
       obtain ⟨x, hx, hq⟩ := List.any_eq_true.1 HBAD.out.symm
       have h2 := h1 x hx
       simp only [Bool.or_eq_true, decide_eq_true_eq] at hq
       omega)
      go_wp2_with fail
      all_goals
       go_ret
       exact headEnd_no HNO.out HK8.out
     | false =>
      have HN2 : Hid (KB F0 W2 w7 ∧ HeadL S g (g.locals.take (i + 1))) := Lib.hid ⟨H8.out, headL_snoc hst.out.2 HTK.out HMT.out (by
       rw [show (g.locals.take i).length = i by rw [List.length_take]; omega, show lowOf g.params i = -1 by exact if_neg (by have := HLO.out; omega)]
       intro x hx
       have h := List.any_eq_false.1 HBAD.out.symm x hx
       simp only [Bool.or_eq_true, decide_eq_true_eq, not_or] at h
       omega)⟩
      go_wp2_with fail
      exact ⟨⟨i + 1, by omega, by go_num, HN2⟩, by simp [intOf]; omega⟩
  ·obtain rfl : i = NN := by omega
   have dk : decide ((i : Int) < (i : Int)) = false := decide_eq_false (by omega)
   have HLL : Hid (HeadL S g g.locals) := Lib.hid (by have h := hst.out.2; rw [HH.out.2.1, List.take_length] at h; exact h)
   have bG := hst.out.1.heap (fun x => x) H2.out.2.2
   have bU := hst.out.1.heap (fun x => x) H2.out.2.1
   have c0 : wr.cell? ⟨w0.heap.size + 1, 0, none⟩ = some (.string g.name) := blk_cell bG 0
   have c1 : wr.cell? ⟨w0.heap.size + 1, 1, none⟩ = some (.int .i64 g.lives) := blk_cell bG 1
   have c2 : wr.cell? ⟨w0.heap.size + 1, 2, none⟩ = some (.slice d.oa NO d.oc) := blk_cell bG 2
   have c3 : wr.cell? ⟨w0.heap.size + 1, 3, none⟩ = some (.int .i64 g.params) := blk_cell bG 3
   have c4 : wr.cell? ⟨w0.heap.size + 1, 4, none⟩ = some (.slice d.la i d.lc) := blk_cell bG 4
   have c5 : wr.cell? ⟨w0.heap.size + 1, 5, none⟩ = some (.slice d.na i d.nc) := blk_cell bG 5
   have c6 : wr.cell? ⟨w0.heap.size + 1, 6, none⟩ = some (.slice d.pa NP d.pc) := blk_cell bG 6
   have OU := Lib.hid (grOutlives_any g d wr (HH.out.1.kbF HK0.out) ⟨HN.out.2.2.1, HN.out.2.2.2.2.1⟩ ⟨HN.out.1, HN.out.2.1⟩
    (fun t ht r hr => by
     obtain ⟨j, hj, rfl⟩ := List.getElem_of_mem ht
     rw [List.getElem_take] at hr
     rw [List.length_take] at hj
     have h1 := (HLL.out j (by omega)).2 r hr
     rw [show lowOf g.params j = 0 by exact if_pos (by have := HN.out.2.2.1; omega)] at h1
     have h2 := HN.out.2.1
     omega) (fun t _ => regX_small t))
   unfold grCs at OU
   rw [← HH.out.2.1, ← HH.out.2.2.1, ← HH.out.2.2.2.2.1, HH.out.2.2.2.1.symm.trans (by rfl)] at OU
   have HKr := Lib.hid (H2.out.1.trans hst.out.1)
   by_cases m1 : NP < 1
   ·have HNO : Hid (¬ HeadP S g (k : Nat) u.mn) := Lib.hid (fun h => by have h1 := h.2.2.1.1; have h2 := HH.out.2.2.1; omega)
    have d1 : decide ((NP : Int) < 1) = true := decide_eq_true (by omega)
    clear hst
    go_wp2_with fail
    all_goals
     go_ret
     exact headEnd_no HNO.out HKr.out
   have d1 : decide ((NP : Int) < 1) = false := decide_eq_false (by omega)
   by_cases m2 : 1024 < NP
   ·have HNO : Hid (¬ HeadP S g (k : Nat) u.mn) := Lib.hid (fun h => by have h1 := h.2.2.1.2; have h2 := HH.out.2.2.1; omega)
    have d2 : decide ((1024 : Int) < (NP : Int)) = true := decide_eq_true (by omega)
    clear hst
    go_wp2_with fail
    all_goals
     go_ret
     exact headEnd_no HNO.out HKr.out
   have d2 : decide ((1024 : Int) < (NP : Int)) = false := decide_eq_false (by omega)
   have HNPs : Hid (1 ≤ NP ∧ NP ≤ 1024) := Lib.hid ⟨by omega, by omega⟩
   clear m1 m2 hst
   as_aux_lemma =>
    go_wp2_with fail
    refine OU.out.mono ?_
    rintro e w9 ⟨ok, rfl, hok, k9⟩
    have HO := Lib.hid (And.intro hok (HKr.out.trans k9))
    have bG9 := k9.heap (fun x => x) bG
    have bU9 := k9.heap (fun x => x) bU
    clear hok k9 OU c0 c1 c2 c3 c4 c5 c6 bG bU d1 d2 dk
    cases ok with
    | false =>
     have HNO : Hid (¬ HeadP S g (k : Nat) u.mn) := Lib.hid (fun h => absurd (HO.out.1.2 h.2.2.2.1) (by decide))
     go_wp2_with fail
     all_goals
      go_ret
      exact headEnd_no HNO.out HO.out.2
    | true =>
     have HOP : Hid (OutP g) := Lib.hid (HO.out.1.1 (by first | rfl | trivial))
     have c6 : w9.cell? ⟨w0.heap.size + 1, 6, none⟩ = some (.slice d.pa NP d.pc) := blk_cell bG9 6
     go_wp2_with fail
     go_loopw [9, 98] (fun nv kv wr => ∃ j : Nat, j ≤ NP ∧ nv = .int .i64 ((loansN (g.points.take j) : Nat) : Int) ∧ kv = .int .i64 (j : Nat) ∧ Hid (KB F0 w9 wr)) (fun _ kv _ => NP - (intOf kv).toNat)
     case atStart => exact ⟨0, by omega, rfl, rfl, Lib.hid (KB.refl _ _)⟩
     case round =>
      obtain ⟨j, hj, rfl, rfl, hst⟩ := hrel
      obtain ⟨LN, hLN⟩ : ∃ n, n = loansN (g.points.take j) := ⟨_, rfl⟩
      rw [← hLN]
      have hLb : LN ≤ 1024 := by have h1 := loansN_le g.points j; have h2 := HNPs.out.2; omega
      have HLN := Lib.hid hLN
      clear hLN
      by_cases hlt : j < NP
      ·as_aux_lemma =>
       have hjI : (j : Int) < (NP : Int) := by omega
       have hNPb : NP ≤ 1024 := HNPs.out.2
       have dj : decide ((j : Int) < (NP : Int)) = true := decide_eq_true hjI
       have hjL : j < g.points.length := by rw [← HH.out.2.2.1]; exact hlt
       obtain ⟨pb, po, pd, hpa, hpc, -⟩ := (HH.out.1.points.kbF (HO.out.2.trans hst.out)) j hjL
       obtain ⟨p, hp⟩ : ∃ p, p = g.points[j] := ⟨_, rfl⟩
       rw [← hp] at hpc
       have HRA : Hid (wr.rangeAt pb (po + j * 21) (ptD p pd).toList) := Lib.hid (fun q v hv => by
        have hq : q < 21 := (List.getElem?_eq_some_iff.1 hv).1
        have h := hpc q hq
        rw [h]
        simpa using hv)
       have HSN : Hid (loansN (g.points.take (j + 1)) = LN + (if p.op = 4 then 1 else 0)) := Lib.hid (by rw [hp, HLN.out]; exact loansN_snoc _ _ hjL)
       rw [hpa]
       clear hpc hp
       go_upto_region 21 with (first | (with_reducible refine atLoadPt (.tmp 100) ?_); refine loadPtMid (o := ⟨_, Op.load 129 (.tmp 100), _, _, _, none⟩) rfl (.tmp 100) rfl pb (po + j * 21) rfl _ rfl HRA.out ?_ | (with_reducible refine atAllocPt ?_); refine layPt (o1 := ⟨_, Op.alloc 129, _, _, _, none⟩) (o2 := ⟨_, Op.store 129 (.tmp 11) (.tmp 101), _, _, _, none⟩) rfl rfl (.tmp 11) (.tmp 101) rfl rfl rfl (ptD p pd) rfl (ptD_one p pd) (fun _ => rfl) (fun _ => rfl) ?_)
       obtain ⟨W8, hW8⟩ : ∃ W8, W8 = wr.alloc (.cells (ptD p pd) 129) := ⟨_, rfl⟩
       rw [← hW8]
       have k8 : KB F0 wr W8 := by rw [hW8]; exact (KB.refl _ _).alloc _
       have b8 : W8.heap[wr.heap.size]? = some (.cells (ptD p pd) 129 (0, 0)) := by rw [hW8]; exact alloc_new _ _
       have f0 : W8.cell? ⟨wr.heap.size, 0, none⟩ = some (.int .u8 p.op) := blk_cell b8 0
       have HW8 := Lib.hid (hst.out.trans k8)
       clear k8 b8 hW8
       by_cases h4 : p.op = 4
       ·have d4 : decide (p.op = 4) = true := decide_eq_true h4
        have HN2 : Hid (loansN (g.points.take (j + 1)) = LN + 1) := Lib.hid (by rw [HSN.out, if_pos h4])
        have wr1 : IntKind.i64.wrap ((LN : Int) + 1) = ((LN + 1 : Nat) : Int) := by rw [w64 (by omega) (by omega)]; omega
        clear HSN
        go_wp2_with fail
        exact ⟨⟨j + 1, by omega, by rw [HN2.out]; rfl, by go_num, HW8⟩, by simp [intOf]; omega⟩
       ·have d4 : decide (p.op = 4) = false := decide_eq_false h4
        have HN2 : Hid (loansN (g.points.take (j + 1)) = LN) := Lib.hid (by rw [HSN.out, if_neg h4]; rfl)
        clear HSN
        go_wp2_with fail
        exact ⟨⟨j + 1, by omega, by rw [HN2.out], by go_num, HW8⟩, by simp [intOf]; omega⟩
      ·obtain rfl : j = NP := by omega
       as_aux_lemma =>
       have dj : decide ((j : Int) < (j : Int)) = false := decide_eq_false (by omega)
       have HLF : Hid (loansN g.points = LN) := Lib.hid (by rw [HLN.out, HH.out.2.2.1, List.take_length])
       have bG2 := hst.out.heap (fun x => x) bG9
       have bU2 := hst.out.heap (fun x => x) bU9
       have HKF := Lib.hid (HO.out.2.trans hst.out)
       have hiL : 0 < g.locals.length := by have h1 := HN.out.2.2.2.2.1; have h2 := HN.out.2.2.1; omega
       obtain ⟨tb, tf, ta, tc, hla, hty, -⟩ := (HH.out.1.locals.kbF HKF.out) 0 hiL
       rw [Nat.zero_mul, Nat.add_zero] at hty
       have q0 := hty.k
       obtain ⟨K0, hK0⟩ : ∃ x, x = (g.locals.getD 0 ty0).k := ⟨_, rfl⟩
       rw [← hK0] at q0
       have HKK := Lib.hid hK0
       have HHH : Hid (∀ B : Bool, (B = true ↔ (LN ≤ 256 ∧ ((k : Int) ≠ u.mn ∨ (g.lives = 0 ∧ g.params = 0 ∧ K0 = 1)))) → ∀ w', KB F0 w0 w' → HeadEnd S g (k : Nat) u.mn w0 (.returned (.bool B)) w') := Lib.hid (fun B hB w' hk => ⟨B, rfl, by
        rw [hB, HKK.out]
        constructor
        ·rintro ⟨h1, h2⟩
         exact ⟨HN.out, HLL.out, by have := HNPs.out; have h3 := HH.out.2.2.1; omega, HOP.out, by rw [HLF.out]; exact h1, h2⟩
        ·rintro ⟨-, -, -, -, h1, h2⟩
         rw [HLF.out] at h1
         exact ⟨h1, h2⟩, hk⟩)
       have c1 : wr.cell? ⟨w0.heap.size + 1, 1, none⟩ = some (.int .i64 g.lives) := blk_cell bG2 1
       have c3 : wr.cell? ⟨w0.heap.size + 1, 3, none⟩ = some (.int .i64 g.params) := blk_cell bG2 3
       have c4 : wr.cell? ⟨w0.heap.size + 1, 4, none⟩ = some (.slice d.la i d.lc) := blk_cell bG2 4
       rw [hla] at c4
       have u2 : wr.cell? ⟨w0.heap.size, 2, none⟩ = some (.int .i64 u.mn) := blk_cell bU2 2
       have hi0 : 0 < i := by have h2 := HH.out.2.1; omega
       have hi1 : (0 : Int) < (i : Int) := by omega
       clear hty hK0 hst hla
       by_cases l1 : LN ≤ 256
       ·have e1 : decide ((LN : Int) ≤ 256) = true := decide_eq_true (by omega)
        have e2 : decide (LN ≤ 256) = true := decide_eq_true l1
        have e3 : ¬ (256 < (LN : Int)) := by omega
        by_cases l2 : (k : Int) = u.mn
        ·rw [← l2] at u2
         have HM := Lib.hid l2
         clear l2
         by_cases l3 : g.lives = 0
         ·have HL3 := Lib.hid l3
          rw [l3] at c1
          clear l3
          by_cases l4 : g.params = 0
          ·have HL4 := Lib.hid l4
           rw [l4] at c3
           clear l4
           by_cases l5 : K0 = 1
           ·have HT : Hid (true = true ↔ (LN ≤ 256 ∧ ((k : Int) ≠ u.mn ∨ (g.lives = 0 ∧ g.params = 0 ∧ K0 = 1)))) := Lib.hid ⟨fun _ => ⟨l1, Or.inr ⟨HL3.out, HL4.out, l5⟩⟩, fun _ => rfl⟩
            have HR := Lib.hid (HHH.out true HT.out wr HKF.out)
            clear HT HHH
            rw [l5] at q0
            clear l5
            as_aux_lemma =>
            go_wp2_with fail
            go_ret
            exact HR.out
           ·have HT : Hid (false = true ↔ (LN ≤ 256 ∧ ((k : Int) ≠ u.mn ∨ (g.lives = 0 ∧ g.params = 0 ∧ K0 = 1)))) := Lib.hid ⟨fun h => (by cases h), fun h => absurd h.2 (by rintro (h | h); exact h HM.out; exact l5 h.2.2)⟩
            have HR := Lib.hid (HHH.out false HT.out wr HKF.out)
            clear HT HHH
            have e5 : (K0 == 1) = false := by simpa using l5
            as_aux_lemma =>
            go_wp2_with fail
            go_ret
            exact HR.out
          ·have HT : Hid (false = true ↔ (LN ≤ 256 ∧ ((k : Int) ≠ u.mn ∨ (g.lives = 0 ∧ g.params = 0 ∧ K0 = 1)))) := Lib.hid ⟨fun h => (by cases h), fun h => absurd h.2 (by rintro (h | h); exact h HM.out; exact l4 h.2.1)⟩
           have HR := Lib.hid (HHH.out false HT.out wr HKF.out)
           clear HT HHH
           have e5 : (g.params == 0) = false := by simpa using l4
           as_aux_lemma =>
           go_wp2_with fail
           go_ret
           exact HR.out
         ·have HT : Hid (false = true ↔ (LN ≤ 256 ∧ ((k : Int) ≠ u.mn ∨ (g.lives = 0 ∧ g.params = 0 ∧ K0 = 1)))) := Lib.hid ⟨fun h => (by cases h), fun h => absurd h.2 (by rintro (h | h); exact h HM.out; exact l3 h.1)⟩
          have HR := Lib.hid (HHH.out false HT.out wr HKF.out)
          clear HT HHH
          have e5 : (g.lives == 0) = false := by simpa using l3
          as_aux_lemma =>
          go_wp2_with fail
          go_ret
          exact HR.out
        ·have HT : Hid (true = true ↔ (LN ≤ 256 ∧ ((k : Int) ≠ u.mn ∨ (g.lives = 0 ∧ g.params = 0 ∧ K0 = 1)))) := Lib.hid ⟨fun _ => ⟨l1, Or.inl l2⟩, fun _ => rfl⟩
         have HR := Lib.hid (HHH.out true HT.out wr HKF.out)
         clear HT HHH
         have e5 : ((k : Int) == u.mn) = false := by simpa using l2
         as_aux_lemma =>
         go_wp2_with fail
         go_ret
         exact HR.out
       ·have HT : Hid (false = true ↔ (LN ≤ 256 ∧ ((k : Int) ≠ u.mn ∨ (g.lives = 0 ∧ g.params = 0 ∧ K0 = 1)))) := Lib.hid ⟨fun h => (by cases h), fun h => absurd h.1 l1⟩
        have HR := Lib.hid (HHH.out false HT.out wr HKF.out)
        clear HT HHH
        have e1 : decide ((LN : Int) ≤ 256) = false := decide_eq_false (by omega)
        have e2 : decide (LN ≤ 256) = false := decide_eq_false l1
        as_aux_lemma =>
        go_wp2_with fail
        go_ret
        exact HR.out
end Go.Proofs.YtaeppaaolkcbbaaGreatDoor

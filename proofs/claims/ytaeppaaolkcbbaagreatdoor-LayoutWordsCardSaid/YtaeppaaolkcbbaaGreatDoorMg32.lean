/- graph.outlives. -/
import Derived.Test.YtaeppaaolkcbbaaGreatDoorMg28
namespace Go.Proofs.YtaeppaaolkcbbaaGreatDoor
open Go.RowKit

def zero88 : List Bool := List.replicate 64 false
def saysM (l : List (Int × Int)) : List Bool := l.foldl (fun M o => M.set (o.1.toNat * 8 + o.2.toNat) true) zero88
theorem saysM_snoc (l : List (Int × Int)) (o : Int × Int) : saysM (l ++ [o]) = (saysM l).set (o.1.toNat * 8 + o.2.toNat) true := by simp [saysM]
theorem saysM_len (l : List (Int × Int)) : (saysM l).length = 64 := by
 have : ∀ (l : List (Int × Int)) (M : List Bool), (l.foldl (fun M o => M.set (o.1.toNat * 8 + o.2.toNat) true) M).length = M.length := by
  intro l
  induction l with
  | nil => exact fun _ => rfl
  | cons o l ih => exact fun M => by rw [List.foldl_cons]; exact (ih _).trans (by simp)
 exact this l zero88
def okO (nl : Int) (o : Int × Int) : Prop := 0 ≤ o.1 ∧ 0 ≤ o.2 ∧ o.1 < nl ∧ o.2 < nl ∧ o.1 ≠ o.2
def nextO (x o : Int × Int) : Prop := x.1 < o.1 ∨ (x.1 = o.1 ∧ x.2 < o.2)
def OutsOk (nl : Int) (l : List (Int × Int)) : Prop := (∀ i (h : i < l.length), okO nl l[i]) ∧ ∀ i (h : i + 1 < l.length), nextO l[i] l[i + 1]
def atM (M : List Bool) (a b : Nat) : Bool := M.getD (a * 8 + b) false
def OutP (g : Gr) : Prop := OutsOk g.lives g.outs ∧ ∀ a b : Nat, (a : Int) < g.lives → (b : Int) < g.lives →
 (∀ c : Nat, (c : Int) < g.lives → atM (saysM g.outs) a b = true → atM (saysM g.outs) b c = true → a ≠ c → atM (saysM g.outs) a c = true) ∧
 (a ≠ b → atM (impT zero88 (g.locals.take (g.params.toNat + 1))) a b = true → atM (saysM g.outs) a b = true)
def OutEnd (g : Gr) (w : World) (e : Ending) (w' : World) : Prop := ∃ ok : Bool, e = .returned (.bool ok) ∧ (ok = true ↔ OutP g) ∧ KB F0 w w'
theorem outEnd_no {g : Gr} {w w' : World} (h : ¬ OutP g) (hk : KB F0 w w') : OutEnd g w (.returned (.bool false)) w' := ⟨false, rfl, Iff.intro (fun e => absurd e (by decide)) (fun e => absurd e h), hk⟩
theorem outEnd_yes {g : Gr} {w w' : World} (h : OutP g) (hk : KB F0 w w') : OutEnd g w (.returned (.bool true)) w' := ⟨true, rfl, ⟨fun _ => h, fun _ => rfl⟩, hk⟩
theorem outsOk_snoc {nl : Int} {l m : List (Int × Int)} {o : Int × Int} (h : OutsOk nl l) (hm : m = l ++ [o]) (ho : okO nl o) (hn : ∀ h : 0 < l.length, nextO l[l.length - 1] o) : OutsOk nl m := by
 subst hm
 refine ⟨fun i hi => ?_, fun i hi => ?_⟩
 ·rw [List.length_append, List.length_singleton] at hi
  by_cases hl : i < l.length
  ·rw [List.getElem_append_left hl]; exact h.1 i hl
  ·obtain rfl : i = l.length := by omega
   rw [List.getElem_append_right (by omega)]
   simpa using ho
 ·rw [List.length_append, List.length_singleton] at hi
  by_cases hl : i + 1 < l.length
  ·rw [List.getElem_append_left (by omega), List.getElem_append_left hl]; exact h.2 i hl
  ·obtain rfl : i = l.length - 1 := by omega
   rw [List.getElem_append_left (by omega), List.getElem_append_right (by omega)]
   simpa using hn (by omega)
set_option maxRecDepth 100000 in
set_option maxHeartbeats 64000000 in
theorem grOutlives_any (g : Gr) (d : GrA) (w : World) (hG : GrAt w g d) (hp : 0 ≤ g.params ∧ g.params < g.locals.length) (hlv : 0 ≤ g.lives ∧ g.lives ≤ 8) (hr : ∀ t ∈ g.locals.take (g.params.toNat + 1), ∀ r ∈ regX t, 0 ≤ r ∧ r < 8) (hs : ∀ t ∈ g.locals, (regX t).length ≤ 1000000) :
  Calls Tryz.prog 133 #[.agg (grCs g d).toArray] w (OutEnd g w) := by
 obtain ⟨w0, rfl⟩ : ∃ w0, w0 = w := ⟨_, rfl⟩
 obtain ⟨np, hnp⟩ : ∃ np : Nat, g.params = (np : Nat) := ⟨g.params.toNat, by omega⟩
 obtain ⟨nl, hnl⟩ : ∃ nl : Nat, g.lives = (nl : Nat) := ⟨g.lives.toNat, by omega⟩
 obtain ⟨NO, hNO⟩ : ∃ n, n = g.outs.length := ⟨_, rfl⟩
 obtain ⟨NL, hNL⟩ : ∃ n, n = g.locals.length := ⟨_, rfl⟩
 have hgc : (grCs g d).toArray = #[.string g.name, .int .i64 (nl : Nat), .slice d.oa NO d.oc, .int .i64 (np : Nat), .slice d.la NL d.lc, .slice d.na g.names.length d.nc, .slice d.pa g.points.length d.pc] := by unfold grCs; rw [hnp, hnl, hNO, hNL]
 rw [hgc]
 obtain ⟨W, hW⟩ : ∃ W, W = w0.alloc (.cells #[.string g.name, .int .i64 (nl : Nat), .slice d.oa NO d.oc, .int .i64 (np : Nat), .slice d.la NL d.lc, .slice d.na g.names.length d.nc, .slice d.pa g.points.length d.pc] 88) := ⟨_, rfl⟩
 have kW : KB F0 w0 W := by rw [hW]; exact (KB.refl _ _).alloc _
 have bW : W.heap[w0.heap.size]? = some (.cells #[.string g.name, .int .i64 (nl : Nat), .slice d.oa NO d.oc, .int .i64 (np : Nat), .slice d.la NL d.lc, .slice d.na g.names.length d.nc, .slice d.pa g.points.length d.pc] 88 (0, 0)) := by rw [hW]; exact alloc_new _ _
 have hsz : W.heap.size = w0.heap.size + 1 := by rw [hW]; simp
 have HW := Lib.hid hW
 have HH := Lib.hid (And.intro hG (And.intro hp (And.intro hlv (And.intro hr (And.intro hs (And.intro hnp (And.intro hnl (And.intro hNO hNL))))))))
 clear hG hp hlv hr hs hnp hnl hNO hNL hgc hW
 go_enter Tryz.func133, Tryz.ntmps133
 go_upto_region 1 with fail
 rw [← HW.out]
 go_upto_region 2 with fail
 obtain ⟨W2, hW2⟩ : ∃ W2, W2 = (W.alloc (.cells #[.bool false, .bool false, .bool false, .bool false, .bool false, .bool false, .bool false, .bool false, .bool false, .bool false, .bool false, .bool false, .bool false, .bool false, .bool false, .bool false, .bool false, .bool false, .bool false, .bool false, .bool false, .bool false, .bool false, .bool false, .bool false, .bool false, .bool false, .bool false, .bool false, .bool false, .bool false, .bool false, .bool false, .bool false, .bool false, .bool false, .bool false, .bool false, .bool false, .bool false, .bool false, .bool false, .bool false, .bool false, .bool false, .bool false, .bool false, .bool false, .bool false, .bool false, .bool false, .bool false, .bool false, .bool false, .bool false, .bool false, .bool false, .bool false, .bool false, .bool false, .bool false, .bool false, .bool false, .bool false] 184)).alloc (.cells #[.bool false, .bool false, .bool false, .bool false, .bool false, .bool false, .bool false, .bool false, .bool false, .bool false, .bool false, .bool false, .bool false, .bool false, .bool false, .bool false, .bool false, .bool false, .bool false, .bool false, .bool false, .bool false, .bool false, .bool false, .bool false, .bool false, .bool false, .bool false, .bool false, .bool false, .bool false, .bool false, .bool false, .bool false, .bool false, .bool false, .bool false, .bool false, .bool false, .bool false, .bool false, .bool false, .bool false, .bool false, .bool false, .bool false, .bool false, .bool false, .bool false, .bool false, .bool false, .bool false, .bool false, .bool false, .bool false, .bool false, .bool false, .bool false, .bool false, .bool false, .bool false, .bool false, .bool false, .bool false] 184) := ⟨_, rfl⟩
 obtain ⟨k2, e3, e4⟩ := new2 W #[.bool false, .bool false, .bool false, .bool false, .bool false, .bool false, .bool false, .bool false, .bool false, .bool false, .bool false, .bool false, .bool false, .bool false, .bool false, .bool false, .bool false, .bool false, .bool false, .bool false, .bool false, .bool false, .bool false, .bool false, .bool false, .bool false, .bool false, .bool false, .bool false, .bool false, .bool false, .bool false, .bool false, .bool false, .bool false, .bool false, .bool false, .bool false, .bool false, .bool false, .bool false, .bool false, .bool false, .bool false, .bool false, .bool false, .bool false, .bool false, .bool false, .bool false, .bool false, .bool false, .bool false, .bool false, .bool false, .bool false, .bool false, .bool false, .bool false, .bool false, .bool false, .bool false, .bool false, .bool false] #[.bool false, .bool false, .bool false, .bool false, .bool false, .bool false, .bool false, .bool false, .bool false, .bool false, .bool false, .bool false, .bool false, .bool false, .bool false, .bool false, .bool false, .bool false, .bool false, .bool false, .bool false, .bool false, .bool false, .bool false, .bool false, .bool false, .bool false, .bool false, .bool false, .bool false, .bool false, .bool false, .bool false, .bool false, .bool false, .bool false, .bool false, .bool false, .bool false, .bool false, .bool false, .bool false, .bool false, .bool false, .bool false, .bool false, .bool false, .bool false, .bool false, .bool false, .bool false, .bool false, .bool false, .bool false, .bool false, .bool false, .bool false, .bool false, .bool false, .bool false, .bool false, .bool false, .bool false, .bool false] 184 184
 rw [← hW2] at k2 e3 e4 ⊢
 rw [hsz] at e3 e4
 have a3 : Arr88 W2 (w0.heap.size + 1) zero88 := e3
 have a4 : Arr88 W2 (w0.heap.size + 1 + 1) zero88 := e4
 have b2 := k2.heap (fun x => x) bW
 have g3 : W2.cell? ⟨w0.heap.size, 3, none⟩ = some (.int .i64 (np : Nat)) := blk_cell b2 3
 have g4 : W2.cell? ⟨w0.heap.size, 4, none⟩ = some (.slice d.la NL d.lc) := blk_cell b2 4
 have hnl2 : np < NL := by have h1 := HH.out.2.1.2; have h2 := HH.out.2.2.2.2.2.1; have h3 := HH.out.2.2.2.2.2.2.2.2; omega
 have hls : NL ≤ 1000000 := by have h3 := HH.out.2.2.2.2.2.2.2.2; have h4 := HH.out.1.lsmall; omega
 have hlc : NL ≤ d.lc := by have h3 := HH.out.2.2.2.2.2.2.2.2; have h4 := HH.out.1.lcap; omega
 have hwr : IntKind.i64.wrap ((np : Int) + 1) = ((np + 1 : Nat) : Int) := by rw [w64 (by omega) (by omega)]; omega
 have hb0 : (0 : Int) ≤ (np : Int) + 1 := by omega
 have hb1 : (np : Int) + 1 ≤ (d.lc : Int) := by omega
 have hLt : (g.locals.take (np + 1)).length = np + 1 := by rw [List.length_take, ← HH.out.2.2.2.2.2.2.2.2]; omega
 have IM := Lib.hid (grImplied_any (g.locals.take (np + 1)) (by rw [hLt]; omega) d.la d.lc (w0.heap.size + 1) zero88 rfl w0 W2 (kW.trans k2) (by omega)
  (fun i hi => by
   rw [hLt] at hi
   obtain ⟨b, o, a', c', e, h1, h2⟩ := HH.out.1.locals i (by rw [← HH.out.2.2.2.2.2.2.2.2]; omega)
   have e2 : (g.locals.take (np + 1)).getD i ty0 = g.locals.getD i ty0 := by rw [List.getD_eq_getElem?_getD, List.getD_eq_getElem?_getD, List.getElem?_take, if_pos hi]
   rw [e2]
   exact ⟨b, o, a', c', e, h1, h2⟩)
  (fun t ht => HH.out.2.2.2.1 t (by have h := HH.out.2.2.2.2.2.1; rw [h, Int.toNat_natCast]; exact ht))
  (fun t ht => HH.out.2.2.2.2.1 t (List.mem_of_mem_take ht)) a3)
 rw [hLt] at IM
 have HB2 := Lib.hid (And.intro (kW.trans k2) (And.intro b2 a4))
 clear hW2 k2 e3 e4 a3 a4 b2 bW kW hLt
 go_wp2_with fail
 refine IM.out.mono ?_
 rintro e V ⟨rfl, kV, aV⟩
 have HV := Lib.hid (And.intro (HB2.out.1.oldS kV (fun i hi e => by have e' : i = w0.heap.size + 1 := e; omega)) (And.intro (kV.heap (fun e => by have e' : w0.heap.size = w0.heap.size + 1 := e; omega) HB2.out.2.1) (And.intro (HB2.out.2.2.kb kV (fun e => by have e' : w0.heap.size + 1 + 1 = w0.heap.size + 1 := e; omega)) aV)))
 have g2 : V.cell? ⟨w0.heap.size, 2, none⟩ = some (.slice d.oa NO d.oc) := blk_cell HV.out.2.1 2
 have g1 : V.cell? ⟨w0.heap.size, 1, none⟩ = some (.int .i64 (nl : Nat)) := blk_cell HV.out.2.1 1
 have hNOs : NO ≤ 1000000 := by have h3 := HH.out.2.2.2.2.2.2.2.1; have h4 := HH.out.1.osmall; omega
 clear kV aV g3 g4 hwr hb0 hb1 IM
 go_wp2_with fail
 go_loopw [21] (fun kv wr => ∃ k : Nat, k ≤ NO ∧ kv = .int .i64 (k : Nat) ∧ Hid (KB (· = w0.heap.size + 1 + 1) V wr ∧ Arr88 wr (w0.heap.size + 1 + 1) (saysM (g.outs.take k)) ∧ OutsOk (nl : Nat) (g.outs.take k))) (fun kv _ => NO - (intOf kv).toNat)
 case atStart => exact ⟨0, by omega, rfl, Lib.hid ⟨KB.refl _ _, HV.out.2.2.1, ⟨fun i h => by simp at h, fun i h => by simp at h⟩⟩⟩
 case round =>
  obtain ⟨k, hk, rfl, hst⟩ := hrel
  by_cases hlt : k < NO
  ·have hkI : (k : Int) < (NO : Int) := by omega
   have dk : decide ((k : Int) < (NO : Int)) = true := decide_eq_true hkI
   have hkO : k < g.outs.length := by rw [← HH.out.2.2.2.2.2.2.2.1]; exact hlt
   have KB0 : Hid (KB F0 w0 wr) := Lib.hid (HV.out.1.oldS hst.out.1 (fun i hi e => by have e' : i = w0.heap.size + 1 + 1 := e; omega))
   obtain ⟨ob, oo, hoa, o0, o1⟩ := HH.out.1.outs k hkO
   replace o0 := KB0.out.cell (p := ⟨ob, oo + k * 2, none⟩) (fun x => x) o0
   replace o1 := KB0.out.cell (p := ⟨ob, oo + k * 2 + 1, none⟩) (fun x => x) o1
   obtain ⟨x, hx⟩ : ∃ x, x = g.outs[k] := ⟨_, rfl⟩
   rw [← hx] at o0 o1
   have HX := Lib.hid hx
   clear hx
   rw [hoa]
   obtain ⟨lo, sh⟩ := x
   simp only at o0 o1
   have g1 : wr.cell? ⟨w0.heap.size, 1, none⟩ = some (.int .i64 (nl : Nat)) := hst.out.1.cell (p := ⟨w0.heap.size, 1, none⟩) (fun e => by have e' : w0.heap.size = w0.heap.size + 1 + 1 := e; omega) g1
   go_upto_region 6 with fail
   obtain ⟨w2, h2⟩ : ∃ w2, w2 = wr.alloc (.cells #[.int .i64 lo, .int .i64 sh] 188) := ⟨_, rfl⟩
   have k2 : KB F0 wr w2 := by rw [h2]; exact (KB.refl _ _).alloc _
   have b2 : w2.heap[wr.heap.size]? = some (.cells #[.int .i64 lo, .int .i64 sh] 188 (0, 0)) := by rw [h2]; exact alloc_new _ _
   rw [← h2]
   obtain ⟨B6, hB6⟩ : ∃ n, n = wr.heap.size := ⟨_, rfl⟩
   rw [← hB6] at b2 ⊢
   clear o0 o1
   have r0 : w2.cell? ⟨B6, 0, none⟩ = some (.int .i64 lo) := blk_cell b2 0
   have r1 : w2.cell? ⟨B6, 1, none⟩ = some (.int .i64 sh) := blk_cell b2 1
   have g1 := k2.cell (p := ⟨w0.heap.size, 1, none⟩) (fun x => x) g1
   have hlow : w0.heap.size + 1 + 1 < B6 := by rw [hB6]; exact heap_lt hst.out.2.1
   have H2 := Lib.hid (And.intro k2 b2)
   clear h2 k2 b2 hB6
   by_cases hok : okO (nl : Nat) (lo, sh)
   ·obtain ⟨q0, q1, q2, q3, q4⟩ := hok
    simp only at q0 q1 q2 q3 q4
    have d1 : decide (lo < 0) = false := decide_eq_false (by omega)
    have d1b : decide (sh < 0) = false := decide_eq_false (by omega)
    have d2 : decide ((nl : Int) ≤ sh) = false := decide_eq_false (by omega)
    have d2b : decide ((nl : Int) ≤ lo) = false := decide_eq_false (by omega)
    have d3 : ¬ lo = sh := q4
    have HTK : Hid (g.outs.take (k + 1) = g.outs.take k ++ [(lo, sh)]) := Lib.hid (by rw [List.take_add_one, List.getElem?_eq_getElem hkO, HX.out]; rfl)
    have dm : min lo sh = (if lo ≤ sh then lo else sh) := Int.min_def lo sh
    have dx : max lo sh = (if lo ≤ sh then sh else lo) := Int.max_def lo sh
    by_cases hle : lo ≤ sh
    all_goals
     go_upto_region 8 with fail
     clear d1 d1b d2 d2b d3 hle dm dx
     rcases Nat.eq_zero_or_pos k with h0 | h0
     ·have HOK : Hid (OutsOk (nl : Nat) (g.outs.take (k + 1))) := Lib.hid (outsOk_snoc hst.out.2.2 HTK.out ⟨q0, q1, q2, q3, q4⟩ (fun h => by rw [List.length_take] at h; omega))
      have dk0 : decide ((0 : Int) < (k : Int)) = false := decide_eq_false (by omega)
      have dk0n : decide (0 < k) = false := decide_eq_false (by omega)
      go_upto_region 12 with fail
      clear dk0 dk0n
      obtain ⟨i, hi⟩ : ∃ i : Nat, lo = (i : Nat) := ⟨lo.toNat, by omega⟩
      obtain ⟨j, hj⟩ : ∃ j : Nat, sh = (j : Nat) := ⟨sh.toNat, by omega⟩
      have o0b : w2.cell? ⟨B6, 0, none⟩ = some (.int .i64 (i : Nat)) := by rw [← hi]; exact r0
      have o1b : w2.cell? ⟨B6, 1, none⟩ = some (.int .i64 (j : Nat)) := by rw [← hj]; exact r1
      have hi8 : (i : Int) < 8 := by have := HH.out.2.2.1.2; have h2 := HH.out.2.2.2.2.2.2.1; omega
      have hj8 : (j : Int) < 8 := by have := HH.out.2.2.1.2; have h2 := HH.out.2.2.2.2.2.2.1; omega
      have hi8n : i < 8 := by omega
      have hj8n : j < 8 := by omega
      have HIJ := Lib.hid (And.intro hi hj)
      clear r0 r1 hi hj
      refine wp_region_rv 6 GQ (kindV []) (by kernel_rfl) (by kernel_rfl) GQ.trans GQ.refl (GQ.start _) (kindV_mono _) ?_
      simp only [pT, pU, pV, pW]
      iterate 6 (refine rv_det (by kernel_rfl) rfl (by intro w hG hH; obtain ⟨n, rfl⟩ := hG; go_simp; first | done | with_reducible rfl) ?_; simp only [Act.put, pA, pZ, pS])
      refine rv_nil (fun w hG hH => ?_)
      obtain ⟨n, rfl⟩ := hG
      clear hH
      obtain ⟨Z, hZ⟩ : ∃ Z, Z = w2.drewN n := ⟨_, rfl⟩
      have kZ : KB F0 wr Z := by rw [hZ]; exact (H2.out.1).drewN _
      rw [← hZ]
      have hA := hst.out.2.1.kb kZ (fun x => x)
      have hcl := hA.cell (j := i * 8 + j) (by rw [saysM_len]; omega)
      have hfr := blk_frozen hA (i * 8 + j)
      have HN : Hid (KB (· = w0.heap.size + 1 + 1) V (Z.setCell ⟨w0.heap.size + 1 + 1, i * 8 + j, none⟩ (.bool true)) ∧ Arr88 (Z.setCell ⟨w0.heap.size + 1 + 1, i * 8 + j, none⟩ (.bool true)) (w0.heap.size + 1 + 1) (saysM (g.outs.take (k + 1))) ∧ OutsOk (nl : Nat) (g.outs.take (k + 1))) := Lib.hid ⟨(hst.out.1.trans (kZ.mono (fun _ _ x => x.elim))).trans (kb_set Z _ _ _), by
       rw [HTK.out, saysM_snoc]
       have e : lo.toNat * 8 + sh.toNat = i * 8 + j := by have h1 := HIJ.out.1; have h2 := HIJ.out.2; omega
       show Arr88 _ _ ((saysM (g.outs.take k)).set (lo.toNat * 8 + sh.toNat) true)
       rw [e]
       exact hA.set _, HOK.out⟩
      clear hZ kZ hA o0b o1b
      go_wp2_with fail
      exact ⟨⟨k + 1, by omega, by go_num, HN⟩, by simp [intOf]; omega⟩
     ·have hk0 : (0 : Int) < (k : Int) := by omega
      have dk0 : decide ((0 : Int) < (k : Int)) = true := decide_eq_true hk0
      have hwk : IntKind.i64.wrap ((k : Int) - 1) = ((k - 1 : Nat) : Int) := by rw [w64 (by omega) (by omega)]; omega
      have hkp : k - 1 < g.outs.length := by omega
      obtain ⟨ob2, oo2, hoa2, p0, p1⟩ := HH.out.1.outs (k - 1) hkp
      rw [hoa] at hoa2
      simp only [Option.some.injEq, Addr.mk.injEq, and_true] at hoa2
      obtain ⟨rfl, rfl⟩ := hoa2
      replace p0 := (KB0.out.trans H2.out.1).cell (p := ⟨ob, oo + (k - 1) * 2, none⟩) (fun x => x) p0
      replace p1 := (KB0.out.trans H2.out.1).cell (p := ⟨ob, oo + (k - 1) * 2 + 1, none⟩) (fun x => x) p1
      obtain ⟨y, hy⟩ : ∃ y, y = g.outs[k - 1] := ⟨_, rfl⟩
      rw [← hy] at p0 p1
      have HY := Lib.hid hy
      clear hy
      obtain ⟨pl, ps⟩ := y
      simp only at p0 p1
      have g2 : w2.cell? ⟨w0.heap.size, 2, none⟩ = some (.slice (some ⟨ob, oo, none⟩) NO d.oc) := by
       have h := H2.out.1.cell (p := ⟨w0.heap.size, 2, none⟩) (fun x => x) (hst.out.1.cell (p := ⟨w0.heap.size, 2, none⟩) (fun e => by have e' : w0.heap.size = w0.heap.size + 1 + 1 := e; omega) (blk_cell HV.out.2.1 2))
       rw [← hoa]
       exact h
      have hkn : ((k - 1 : Nat) : Int) < (NO : Int) := by omega
      go_upto_region 10 with fail
      obtain ⟨w3, h3⟩ : ∃ w3, w3 = w2.alloc (.cells #[.int .i64 pl, .int .i64 ps] 188) := ⟨_, rfl⟩
      have k3 : KB F0 w2 w3 := by rw [h3]; exact (KB.refl _ _).alloc _
      have b3 : w3.heap[w2.heap.size]? = some (.cells #[.int .i64 pl, .int .i64 ps] 188 (0, 0)) := by rw [h3]; exact alloc_new _ _
      rw [← h3]
      obtain ⟨B7, hB7⟩ : ∃ n, n = w2.heap.size := ⟨_, rfl⟩
      rw [← hB7] at b3 ⊢
      have s0 : w3.cell? ⟨B7, 0, none⟩ = some (.int .i64 pl) := blk_cell b3 0
      have s1 : w3.cell? ⟨B7, 1, none⟩ = some (.int .i64 ps) := blk_cell b3 1
      replace r0 := k3.cell (p := ⟨B6, 0, none⟩) (fun x => x) r0
      replace r1 := k3.cell (p := ⟨B6, 1, none⟩) (fun x => x) r1
      have H3 := Lib.hid (H2.out.1.trans k3)
      have HKF := Lib.hid (KB0.out.trans (H2.out.1.trans k3))
      clear h3 k3 b3 hB7 g2 p0 p1
      by_cases hn : nextO (pl, ps) (lo, sh)
      ·have HOK : Hid (OutsOk (nl : Nat) (g.outs.take (k + 1))) := Lib.hid (outsOk_snoc hst.out.2.2 HTK.out ⟨q0, q1, q2, q3, q4⟩ (fun h => by
        have hlk : (g.outs.take k).length = k := by rw [List.length_take]; omega
        have e : (g.outs.take k)[(g.outs.take k).length - 1] = g.outs[k - 1] := by rw [List.getElem_take]; simp only [hlk]
        rw [e, ← HY.out]
        exact hn))
       have hx1 : decide (lo < pl) = false := decide_eq_false (by rcases hn with h | h <;> simp only at h <;> omega)
       rcases hn with hn | hn
       ·simp only at hn
        have hx2 : ¬ pl = lo := by omega
        go_upto_region 12 with fail
        clear hx1 hx2 s0 s1 dk0 hk0 hwk hkn
        obtain ⟨i, hi⟩ : ∃ i : Nat, lo = (i : Nat) := ⟨lo.toNat, by omega⟩
        obtain ⟨j, hj⟩ : ∃ j : Nat, sh = (j : Nat) := ⟨sh.toNat, by omega⟩
        have o0b : w3.cell? ⟨B6, 0, none⟩ = some (.int .i64 (i : Nat)) := by rw [← hi]; exact r0
        have o1b : w3.cell? ⟨B6, 1, none⟩ = some (.int .i64 (j : Nat)) := by rw [← hj]; exact r1
        have hi8 : (i : Int) < 8 := by have := HH.out.2.2.1.2; have h2 := HH.out.2.2.2.2.2.2.1; omega
        have hj8 : (j : Int) < 8 := by have := HH.out.2.2.1.2; have h2 := HH.out.2.2.2.2.2.2.1; omega
        have hi8n : i < 8 := by omega
        have hj8n : j < 8 := by omega
        have HIJ := Lib.hid (And.intro hi hj)
        clear r0 r1 hi hj
        refine wp_region_rv 6 GQ (kindV []) (by kernel_rfl) (by kernel_rfl) GQ.trans GQ.refl (GQ.start _) (kindV_mono _) ?_
        simp only [pT, pU, pV, pW]
        iterate 6 (refine rv_det (by kernel_rfl) rfl (by intro w hG hH; obtain ⟨n, rfl⟩ := hG; go_simp; first | done | with_reducible rfl) ?_; simp only [Act.put, pA, pZ, pS])
        refine rv_nil (fun w hG hH => ?_)
        obtain ⟨n, rfl⟩ := hG
        clear hH
        obtain ⟨Z, hZ⟩ : ∃ Z, Z = w3.drewN n := ⟨_, rfl⟩
        have kZ : KB F0 wr Z := by rw [hZ]; exact (H3.out).drewN _
        rw [← hZ]
        have hA := hst.out.2.1.kb kZ (fun x => x)
        have hcl := hA.cell (j := i * 8 + j) (by rw [saysM_len]; omega)
        have hfr := blk_frozen hA (i * 8 + j)
        have HN : Hid (KB (· = w0.heap.size + 1 + 1) V (Z.setCell ⟨w0.heap.size + 1 + 1, i * 8 + j, none⟩ (.bool true)) ∧ Arr88 (Z.setCell ⟨w0.heap.size + 1 + 1, i * 8 + j, none⟩ (.bool true)) (w0.heap.size + 1 + 1) (saysM (g.outs.take (k + 1))) ∧ OutsOk (nl : Nat) (g.outs.take (k + 1))) := Lib.hid ⟨(hst.out.1.trans (kZ.mono (fun _ _ x => x.elim))).trans (kb_set Z _ _ _), by
         rw [HTK.out, saysM_snoc]
         have e : lo.toNat * 8 + sh.toNat = i * 8 + j := by have h1 := HIJ.out.1; have h2 := HIJ.out.2; omega
         show Arr88 _ _ ((saysM (g.outs.take k)).set (lo.toNat * 8 + sh.toNat) true)
         rw [e]
         exact hA.set _, HOK.out⟩
        clear hZ kZ hA o0b o1b
        go_wp2_with fail
        exact ⟨⟨k + 1, by omega, by go_num, HN⟩, by simp [intOf]; omega⟩
       ·simp only at hn
        have hx2 := hn.1
        have hx3 : decide (sh ≤ ps) = false := decide_eq_false (by omega)
        go_upto_region 12 with fail
        clear hx1 hx2 hx3 hn s0 s1 dk0 hk0 hwk hkn
        obtain ⟨i, hi⟩ : ∃ i : Nat, lo = (i : Nat) := ⟨lo.toNat, by omega⟩
        obtain ⟨j, hj⟩ : ∃ j : Nat, sh = (j : Nat) := ⟨sh.toNat, by omega⟩
        have o0b : w3.cell? ⟨B6, 0, none⟩ = some (.int .i64 (i : Nat)) := by rw [← hi]; exact r0
        have o1b : w3.cell? ⟨B6, 1, none⟩ = some (.int .i64 (j : Nat)) := by rw [← hj]; exact r1
        have hi8 : (i : Int) < 8 := by have := HH.out.2.2.1.2; have h2 := HH.out.2.2.2.2.2.2.1; omega
        have hj8 : (j : Int) < 8 := by have := HH.out.2.2.1.2; have h2 := HH.out.2.2.2.2.2.2.1; omega
        have hi8n : i < 8 := by omega
        have hj8n : j < 8 := by omega
        have HIJ := Lib.hid (And.intro hi hj)
        clear r0 r1 hi hj
        refine wp_region_rv 6 GQ (kindV []) (by kernel_rfl) (by kernel_rfl) GQ.trans GQ.refl (GQ.start _) (kindV_mono _) ?_
        simp only [pT, pU, pV, pW]
        iterate 6 (refine rv_det (by kernel_rfl) rfl (by intro w hG hH; obtain ⟨n, rfl⟩ := hG; go_simp; first | done | with_reducible rfl) ?_; simp only [Act.put, pA, pZ, pS])
        refine rv_nil (fun w hG hH => ?_)
        obtain ⟨n, rfl⟩ := hG
        clear hH
        obtain ⟨Z, hZ⟩ : ∃ Z, Z = w3.drewN n := ⟨_, rfl⟩
        have kZ : KB F0 wr Z := by rw [hZ]; exact (H3.out).drewN _
        rw [← hZ]
        have hA := hst.out.2.1.kb kZ (fun x => x)
        have hcl := hA.cell (j := i * 8 + j) (by rw [saysM_len]; omega)
        have hfr := blk_frozen hA (i * 8 + j)
        have HN : Hid (KB (· = w0.heap.size + 1 + 1) V (Z.setCell ⟨w0.heap.size + 1 + 1, i * 8 + j, none⟩ (.bool true)) ∧ Arr88 (Z.setCell ⟨w0.heap.size + 1 + 1, i * 8 + j, none⟩ (.bool true)) (w0.heap.size + 1 + 1) (saysM (g.outs.take (k + 1))) ∧ OutsOk (nl : Nat) (g.outs.take (k + 1))) := Lib.hid ⟨(hst.out.1.trans (kZ.mono (fun _ _ x => x.elim))).trans (kb_set Z _ _ _), by
         rw [HTK.out, saysM_snoc]
         have e : lo.toNat * 8 + sh.toNat = i * 8 + j := by have h1 := HIJ.out.1; have h2 := HIJ.out.2; omega
         show Arr88 _ _ ((saysM (g.outs.take k)).set (lo.toNat * 8 + sh.toNat) true)
         rw [e]
         exact hA.set _, HOK.out⟩
        clear hZ kZ hA o0b o1b
        go_wp2_with fail
        exact ⟨⟨k + 1, by omega, by go_num, HN⟩, by simp [intOf]; omega⟩
      ·have HNO : Hid (¬ OutP g) := Lib.hid (fun h => hn (by
        have h1 := h.1.2 (k - 1) (by omega)
        have e : g.outs[k - 1 + 1] = g.outs[k] := by simp only [show k - 1 + 1 = k by omega]
        rw [e, ← HX.out, ← HY.out] at h1
        exact h1))
       by_cases hx1 : lo < pl
       ·have hx2 : decide (lo < pl) = true := decide_eq_true hx1
        go_wp2_with fail
        all_goals
         go_ret
         exact outEnd_no HNO.out HKF.out
       ·have hx2 : decide (lo < pl) = false := decide_eq_false hx1
        have hx3 : pl = lo := by unfold nextO at hn; simp only at hn; omega
        have hx4 : decide (sh ≤ ps) = true := decide_eq_true (by unfold nextO at hn; simp only at hn; omega)
        go_wp2_with fail
        all_goals
         go_ret
         exact outEnd_no HNO.out HKF.out
   ·have HNO : Hid (¬ OutP g) := Lib.hid (fun h => hok (by
     have h1 := h.1.1 k hkO
     rw [← HX.out, HH.out.2.2.2.2.2.2.1] at h1
     exact h1))
    have HKF := Lib.hid (KB0.out.trans H2.out.1)
    unfold okO at hok
    simp only at hok
    by_cases c1 : min lo sh < 0
    ·by_cases hle : lo ≤ sh
     ·have d1 : decide (lo < 0) = true := decide_eq_true (by omega)
      go_wp2_with fail
      all_goals
       go_ret
       exact outEnd_no HNO.out HKF.out
     ·have d1 : decide (sh < 0) = true := decide_eq_true (by omega)
      go_wp2_with fail
      all_goals
       go_ret
       exact outEnd_no HNO.out HKF.out
    ·have e1 : decide (lo < 0) = false := decide_eq_false (by omega)
     have e2 : decide (sh < 0) = false := decide_eq_false (by omega)
     by_cases c2 : (nl : Int) ≤ max lo sh
     ·rcases Int.lt_trichotomy lo sh with hlt | hlt | hlt
      ·have hx : (nl : Int) ≤ sh := by omega
       have hle : lo ≤ sh := by omega
       have hne : ¬ sh < lo := by omega
       have d1 : decide ((nl : Int) ≤ sh) = true := decide_eq_true hx
       clear c1 c2 hok
       go_wp2_with fail
       all_goals
        go_ret
        exact outEnd_no HNO.out HKF.out
      ·subst hlt
       have hx : (nl : Int) ≤ lo := by omega
       have d1 : decide ((nl : Int) ≤ lo) = true := decide_eq_true hx
       clear c1 c2 hok
       go_wp2_with fail
       all_goals
        go_ret
        exact outEnd_no HNO.out HKF.out
      ·have hx : (nl : Int) ≤ lo := by omega
       have hle : ¬ lo ≤ sh := by omega
       have d1 : decide ((nl : Int) ≤ lo) = true := decide_eq_true hx
       clear c1 c2 hok
       go_wp2_with fail
       all_goals
        go_ret
        exact outEnd_no HNO.out HKF.out
     ·have e3 : decide ((nl : Int) ≤ sh) = false := decide_eq_false (by omega)
      have hle : lo ≤ sh := by omega
      have d3 : lo = sh := by
       omega
      clear c1 c2 hok
      subst d3
      go_wp2_with fail
      all_goals
       go_ret
       exact outEnd_no HNO.out HKF.out
  ·obtain rfl : k = NO := by omega
   have dk : decide ((k : Int) < (k : Int)) = false := decide_eq_false (by omega)
   have HE : Hid (Arr88 wr (w0.heap.size + 1 + 1) (saysM g.outs) ∧ Arr88 wr (w0.heap.size + 1) (impT zero88 (g.locals.take (np + 1))) ∧ OutsOk (nl : Nat) g.outs ∧ KB F0 w0 wr) := Lib.hid (by
    have h := hst.out.2
    have ho := HH.out.2.2.2.2.2.2.2.1
    rw [show g.outs.take k = g.outs by rw [ho, List.take_length]] at h
    exact ⟨h.1, HV.out.2.2.2.kb hst.out.1 (fun e => by have e' : w0.heap.size + 1 = w0.heap.size + 1 + 1 := e; omega), h.2, HV.out.1.oldS hst.out.1 (fun i hi e => by have e' : i = w0.heap.size + 1 + 1 := e; omega)⟩)
   have g1 : wr.cell? ⟨w0.heap.size, 1, none⟩ = some (.int .i64 (nl : Nat)) := hst.out.1.cell (p := ⟨w0.heap.size, 1, none⟩) (fun e => by have e' : w0.heap.size = w0.heap.size + 1 + 1 := e; omega) g1
   obtain ⟨MS, hMS⟩ : ∃ M, M = saysM g.outs := ⟨_, rfl⟩
   obtain ⟨MM, hMM⟩ : ∃ M, M = impT zero88 (g.locals.take (np + 1)) := ⟨_, rfl⟩
   have hn8 : nl ≤ 8 := by have h1 := HH.out.2.2.1.2; have h2 := HH.out.2.2.2.2.2.2.1; omega
   have hl1 : MS.length = 64 := by rw [hMS]; exact saysM_len _
   have hl2 : MM.length = 64 := by rw [hMM]; exact (impT_len _ _).trans rfl
   have HM := Lib.hid (And.intro hMS hMM)
   have SC : Hid (∀ a b : Nat, a < nl → b < nl → wr.cell? ⟨w0.heap.size + 1 + 1, a * 8 + b, none⟩ = some (.bool (atM MS a b))) := Lib.hid (fun a b ha hb => by
    have h := HE.out.1.cell (j := a * 8 + b) (by rw [← hMS, hl1]; omega)
    rw [← hMS] at h
    exact h)
   have MC : Hid (∀ a b : Nat, a < nl → b < nl → wr.cell? ⟨w0.heap.size + 1, a * 8 + b, none⟩ = some (.bool (atM MM a b))) := Lib.hid (fun a b ha hb => by
    have h := HE.out.2.1.cell (j := a * 8 + b) (by rw [← hMM, hl2]; omega)
    rw [← hMM] at h
    exact h)
   have HNOa : Hid (∀ a b c : Nat, a < nl → b < nl → c < nl → atM MS a b = true → atM MS b c = true → a ≠ c → atM MS a c = false → ¬ OutP g) := Lib.hid (fun a b c ha hb hc h1 h2 h3 h4 h => by
    have e := HH.out.2.2.2.2.2.2.1
    have h5 := (h.2 a b (by omega) (by omega)).1 c (by omega)
    rw [← hMS] at h5
    rw [h5 h1 h2 h3] at h4
    cases h4)
   have HNOb : Hid (∀ a b : Nat, a < nl → b < nl → a ≠ b → atM MM a b = true → atM MS a b = false → ¬ OutP g) := Lib.hid (fun a b ha hb h1 h2 h3 h => by
    have e := HH.out.2.2.2.2.2.2.1
    have h5 := (h.2 a b (by omega) (by omega)).2 h1
    rw [show g.params.toNat = np by have := HH.out.2.2.2.2.2.1; omega, ← hMM, ← hMS] at h5
    rw [h5 h2] at h3
    cases h3)
   clear hst hMS hMM hl1 hl2
   go_wp2_with fail
   go_loopw [85] (fun kv w' => ∃ a : Nat, a ≤ nl ∧ kv = .int .i64 (a : Nat) ∧ w' = wr ∧ Hid (∀ a' b, a' < a → b < nl → (∀ c, c < nl → atM MS a' b = true → atM MS b c = true → a' ≠ c → atM MS a' c = true) ∧ (a' ≠ b → atM MM a' b = true → atM MS a' b = true))) (fun kv _ => nl - (intOf kv).toNat)
   case atStart => exact ⟨0, by omega, rfl, rfl, Lib.hid (fun a' b h => by omega)⟩
   case round =>
    obtain ⟨a, ha, rfl, rfl, hsa⟩ := hrel
    by_cases hla : a < nl
    ·have haI : (a : Int) < (nl : Int) := by omega
     have da : decide ((a : Int) < (nl : Int)) = true := decide_eq_true haI
     go_wp2_with fail
     go_loopw [90] (fun kv w' => ∃ b : Nat, b ≤ nl ∧ kv = .int .i64 (b : Nat) ∧ w' = wr ∧ Hid (∀ b', b' < b → (∀ c, c < nl → atM MS a b' = true → atM MS b' c = true → a ≠ c → atM MS a c = true) ∧ (a ≠ b' → atM MM a b' = true → atM MS a b' = true))) (fun kv _ => nl - (intOf kv).toNat)
     case atStart => exact ⟨0, by omega, rfl, rfl, Lib.hid (fun b' h => by omega)⟩
     case round =>
      obtain ⟨b, hb, rfl, rfl, hsb⟩ := hrel
      by_cases hlb : b < nl
      ·have hbI : (b : Int) < (nl : Int) := by omega
       have db : decide ((b : Int) < (nl : Int)) = true := decide_eq_true hbI
       have ha8 : (a : Int) < 8 := by omega
       have hb8 : (b : Int) < 8 := by omega
       have p1 := SC.out a b hla hlb
       obtain ⟨v1, hv1⟩ : ∃ v, v = atM MS a b := ⟨_, rfl⟩
       rw [← hv1] at p1
       have HV1 := Lib.hid hv1
       clear hv1
       go_wp2_with fail
       go_loopw [95] (fun kv w' => ∃ c : Nat, c ≤ nl ∧ kv = .int .i64 (c : Nat) ∧ w' = wr ∧ Hid (∀ c', c' < c → v1 = true → atM MS b c' = true → a ≠ c' → atM MS a c' = true)) (fun kv _ => nl - (intOf kv).toNat)
       case atStart => exact ⟨0, by omega, rfl, rfl, Lib.hid (fun c' h => by omega)⟩
       case round =>
        obtain ⟨c, hc, rfl, rfl, hsc⟩ := hrel
        by_cases hlc : c < nl
        ·have hcI : (c : Int) < (nl : Int) := by omega
         have dc : decide ((c : Int) < (nl : Int)) = true := decide_eq_true hcI
         have hc8 : (c : Int) < 8 := by omega
         have p2 := SC.out b c hlb hlc
         have p3 := SC.out a c hla hlc
         obtain ⟨v2, hv2⟩ : ∃ v, v = atM MS b c := ⟨_, rfl⟩
         obtain ⟨v3, hv3⟩ : ∃ v, v = atM MS a c := ⟨_, rfl⟩
         rw [← hv2] at p2
         rw [← hv3] at p3
         have HV2 := Lib.hid hv2
         have HV3 := Lib.hid hv3
         clear hv2 hv3
         have HS : Hid ((v1 = true → v2 = true → a ≠ c → v3 = true) → ∀ c', c' < c + 1 → v1 = true → atM MS b c' = true → a ≠ c' → atM MS a c' = true) := Lib.hid (fun h c' hc' => by
          rcases Nat.lt_or_eq_of_le (Nat.lt_succ_iff.1 hc') with h1 | rfl
          ·exact hsc.out c' h1
          ·rw [← HV2.out, ← HV3.out]; exact h)
         by_cases hac : a = c
         ·have HN : Hid (∀ c', c' < c + 1 → v1 = true → atM MS b c' = true → a ≠ c' → atM MS a c' = true) := Lib.hid (HS.out (fun _ _ h => absurd hac h))
          subst hac
          cases v1
          ·go_wp2_with fail
           exact ⟨⟨a + 1, by omega, by go_num, by first | rfl | trivial, by first | exact HN | exact Lib.hid (fun c' h1 _ => HN.out c' h1 rfl)⟩, by simp [intOf]; omega⟩
          ·cases v2
           ·go_wp2_with fail
            exact ⟨⟨a + 1, by omega, by go_num, by first | rfl | trivial, by first | exact HN | exact Lib.hid (fun c' h1 _ => HN.out c' h1 rfl)⟩, by simp [intOf]; omega⟩
           ·go_wp2_with fail
            exact ⟨⟨a + 1, by omega, by go_num, by first | rfl | trivial, by first | exact HN | exact Lib.hid (fun c' h1 _ => HN.out c' h1 rfl)⟩, by simp [intOf]; omega⟩
         ·have hacI : ¬ (a : Int) = (c : Int) := by omega
          cases v1
          ·have HN : Hid (∀ c', c' < c + 1 → false = true → atM MS b c' = true → a ≠ c' → atM MS a c' = true) := Lib.hid (HS.out (fun h => by cases h))
           go_wp2_with fail
           exact ⟨⟨c + 1, by omega, by go_num, by first | rfl | trivial, by first | exact HN | exact Lib.hid (fun c' h1 _ => HN.out c' h1 rfl)⟩, by simp [intOf]; omega⟩
          ·cases v2
           ·have HN : Hid (∀ c', c' < c + 1 → true = true → atM MS b c' = true → a ≠ c' → atM MS a c' = true) := Lib.hid (HS.out (fun _ h => by cases h))
            go_wp2_with fail
            exact ⟨⟨c + 1, by omega, by go_num, by first | rfl | trivial, by first | exact HN | exact Lib.hid (fun c' h1 _ => HN.out c' h1 rfl)⟩, by simp [intOf]; omega⟩
           ·cases v3
            ·have HNO := Lib.hid (HNOa.out a b c hla hlb hlc HV1.out.symm HV2.out.symm hac HV3.out.symm)
             have HKF := Lib.hid HE.out.2.2.2
             go_wp2_with fail
             all_goals
              go_ret
              exact outEnd_no HNO.out HKF.out
            ·have HN : Hid (∀ c', c' < c + 1 → true = true → atM MS b c' = true → a ≠ c' → atM MS a c' = true) := Lib.hid (HS.out (fun _ _ _ => rfl))
             go_wp2_with fail
             exact ⟨⟨c + 1, by omega, by go_num, by first | rfl | trivial, by first | exact HN | exact Lib.hid (fun c' h1 _ => HN.out c' h1 rfl)⟩, by simp [intOf]; omega⟩
        ·obtain rfl : c = nl := by omega
         have dc : decide ((c : Int) < (c : Int)) = false := decide_eq_false (by omega)
         have m1 := MC.out a b hla hlb
         obtain ⟨v4, hv4⟩ : ∃ v, v = atM MM a b := ⟨_, rfl⟩
         rw [← hv4] at m1
         have HV4 := Lib.hid hv4
         clear hv4
         have HS : Hid ((a ≠ b → v4 = true → v1 = true) → ∀ b', b' < b + 1 → (∀ d, d < c → atM MS a b' = true → atM MS b' d = true → a ≠ d → atM MS a d = true) ∧ (a ≠ b' → atM MM a b' = true → atM MS a b' = true)) := Lib.hid (fun h b' hb' => by
          rcases Nat.lt_or_eq_of_le (Nat.lt_succ_iff.1 hb') with h1 | rfl
          ·exact hsb.out b' h1
          ·rw [← HV4.out, ← HV1.out]; exact ⟨fun d hd => hsc.out d hd, h⟩)
         clear hsc
         by_cases hab : a = b
         ·have HN : Hid (∀ b', b' < b + 1 → (∀ d, d < c → atM MS a b' = true → atM MS b' d = true → a ≠ d → atM MS a d = true) ∧ (a ≠ b' → atM MM a b' = true → atM MS a b' = true)) := Lib.hid (HS.out (fun h => absurd hab h))
          subst hab
          go_wp2_with fail
          exact ⟨⟨a + 1, by omega, by go_num, by first | rfl | trivial, HN⟩, by simp [intOf]; omega⟩
         ·have habI : ¬ (a : Int) = (b : Int) := by omega
          cases v4
          ·have HN : Hid (∀ b', b' < b + 1 → (∀ d, d < c → atM MS a b' = true → atM MS b' d = true → a ≠ d → atM MS a d = true) ∧ (a ≠ b' → atM MM a b' = true → atM MS a b' = true)) := Lib.hid (HS.out (fun _ h => by cases h))
           go_wp2_with fail
           exact ⟨⟨b + 1, by omega, by go_num, by first | rfl | trivial, HN⟩, by simp [intOf]; omega⟩
          ·cases v1
           ·have HNO := Lib.hid (HNOb.out a b hla hlb hab HV4.out.symm HV1.out.symm)
            have HKF := Lib.hid HE.out.2.2.2
            go_wp2_with fail
            all_goals
             go_ret
             exact outEnd_no HNO.out HKF.out
           ·have HN : Hid (∀ b', b' < b + 1 → (∀ d, d < c → atM MS a b' = true → atM MS b' d = true → a ≠ d → atM MS a d = true) ∧ (a ≠ b' → atM MM a b' = true → atM MS a b' = true)) := Lib.hid (HS.out (fun _ _ => rfl))
            go_wp2_with fail
            exact ⟨⟨b + 1, by omega, by go_num, by first | rfl | trivial, HN⟩, by simp [intOf]; omega⟩
      ·obtain rfl : b = nl := by omega
       have db : decide ((b : Int) < (b : Int)) = false := decide_eq_false (by omega)
       have HN : Hid (∀ a' b', a' < a + 1 → b' < b → (∀ c, c < b → atM MS a' b' = true → atM MS b' c = true → a' ≠ c → atM MS a' c = true) ∧ (a' ≠ b' → atM MM a' b' = true → atM MS a' b' = true)) := Lib.hid (fun a' b' ha' hb' => by
        rcases Nat.lt_or_eq_of_le (Nat.lt_succ_iff.1 ha') with h1 | rfl
        ·exact hsa.out a' b' h1 hb'
        ·exact hsb.out b' hb')
       clear hsb
       go_wp2_with fail
       exact ⟨⟨a + 1, by omega, by go_num, by first | rfl | trivial, HN⟩, by simp [intOf]; omega⟩
    ·obtain rfl : a = nl := by omega
     have da : decide ((a : Int) < (a : Int)) = false := decide_eq_false (by omega)
     have HYES : Hid (OutP g) := Lib.hid (by
      have e := HH.out.2.2.2.2.2.2.1
      refine ⟨by rw [e]; exact HE.out.2.2.1, fun a' b' ha' hb' => ?_⟩
      have h := hsa.out a' b' (by omega) (by omega)
      rw [show g.params.toNat = np by have := HH.out.2.2.2.2.2.1; omega, ← HM.out.1, ← HM.out.2]
      exact ⟨fun c hc => h.1 c (by omega), h.2⟩)
     have HKF := Lib.hid HE.out.2.2.2
     clear hsa
     go_wp2_with fail
     go_ret
     exact outEnd_yes HYES.out HKF.out
end Go.Proofs.YtaeppaaolkcbbaaGreatDoor

/- graph.point, at a point of the kinds Use, Borrow, Return. graph.Check, graph.May. -/
import Derived.Test.YtaeppaaolkcbbaaGreatDoorMg35
import Derived.Test.YtaeppaaolkcbbaaGreatDoorMg36
import Derived.Test.YtaeppaaolkcbbaaGreatDoorMg37
import Derived.Test.YtaeppaaolkcbbaaGreatDoorMg34
import Derived.WalkMore
namespace Go.Proofs.YtaeppaaolkcbbaaGreatDoor
open Go.RowKit

def armB (S : List (List Ty)) (L : List Ty) (Fs : List Gr) (n : Int) (p : Pt) : Bool :=
 let x := spG S L p.dst
 let y := spG S L p.src
 let a := opF S L p.a
 let b := opF S L p.b
 if p.op = 1 then armUse p x a else if p.op = 2 then armBinary p x a b else if p.op = 3 then armUnary p x a else if p.op = 4 then armBorrow p x y
 else if p.op = 5 then armBox p x a else if p.op = 6 then armMake S L p x else if p.op = 7 then armCall S L Fs p x else if p.op = 8 then armRead p x
 else if p.op = 9 then armPrint p a else if p.op = 10 then armDrop S p y else if p.op = 11 then armDead p y else if p.op = 12 then armBranch n p a
 else if p.op = 13 then armNo p else if p.op = 14 then armNo p else false
def pointB (S : List (List Ty)) (L : List Ty) (Fs : List Gr) (n : Int) (p : Pt) : Bool := ptPre n p && armB S L Fs n p
def ptOk (n : Int) (p : Pt) : Bool := (p.op = 1 || p.op = 4 || p.op = 14) && ptPre n p
theorem grPoint_any (S : List (List Ty)) (Fs : List Gr) (g : Gr) (u : AskA) (d : GrA) (p : Pt) (pd : PtA) (wb w : World) (H : PtIn S Fs g u d p pd wb w) (ho : ptOk g.points.length p = true) :
  Calls Tryz.prog 105 #[.agg (askD S Fs g u d), .agg (ptD p pd)] w fun e w' => e = .returned (.bool (pointB S g.locals Fs g.points.length p)) ∧ KB F0 w w' := by
 unfold ptOk at ho
 simp only [Bool.and_eq_true, Bool.or_eq_true, decide_eq_true_eq] at ho
 obtain ⟨ho, hpre⟩ := ho
 unfold pointB
 rw [hpre, Bool.true_and]
 unfold armB
 rcases ho with (h | h) | h
 ·have H2 := grPointUse_any S Fs g u d p pd wb w H h hpre
  simp only [h]
  exact H2
 ·have H2 := grPointBorrow_any S Fs g u d p pd wb w H h hpre
  simp only [h]
  exact H2
 ·have H2 := grPointReturn_any S Fs g u d p pd wb w H h hpre
  simp only [h]
  exact H2

structure UnitP (S : List (List Ty)) (Fs : List Gr) (mn : Int) : Prop where
 good : GoodS S
 n1 : 1 ≤ Fs.length
 n2 : Fs.length ≤ 32
 m1 : 0 ≤ mn
 m2 : mn < Fs.length
 heads : ∀ k (h : k < Fs.length), HeadP S Fs[k] (k : Nat) mn
 points : ∀ k (h : k < Fs.length), ∀ q (hq : q < Fs[k].points.length), pointB S Fs[k].locals Fs Fs[k].points.length Fs[k].points[q] = true
def chkErr (ok : Bool) : Int := if ok = true then 0 else 100
def ChkEnd (S : List (List Ty)) (Fs : List Gr) (mn : Int) (w : World) (e : Ending) (w' : World) : Prop :=
 ∃ (f a : Int) (ok : Bool), e = .returned (.tuple #[.int .i64 f, .int .i64 a, .int .i64 (chkErr ok)]) ∧ (ok = true ↔ UnitP S Fs mn) ∧ KB F0 w w'
theorem chkEnd_no {S : List (List Ty)} {Fs : List Gr} {mn : Int} {w w' : World} (f a : Int) (h : ¬ UnitP S Fs mn) (hk : KB F0 w w') : ChkEnd S Fs mn w (.returned (.tuple #[.int .i64 f, .int .i64 a, .int .i64 100])) w' :=
 ⟨f, a, false, rfl, Iff.intro (fun e => absurd e (by decide)) (fun e => absurd e h), hk⟩
theorem chkEnd_yes {S : List (List Ty)} {Fs : List Gr} {mn : Int} {w w' : World} (f a : Int) (h : UnitP S Fs mn) (hk : KB F0 w w') : ChkEnd S Fs mn w (.returned (.tuple #[.int .i64 f, .int .i64 a, .int .i64 0])) w' :=
 ⟨f, a, true, rfl, Iff.intro (fun _ => h) (fun _ => rfl), hk⟩
theorem results_tmp3 {P : Program} {fn : Func} {p q r : Tmp} (h : fn.results = #[.tmp p, .tmp q, .tmp r]) (tmps : Array Value) (w : World) : (results fn tmps).run P w = .ok (.tuple #[tmps.getD p undef, tmps.getD q undef, tmps.getD r undef]) w := by
 simp only [results, h]
 simp [Sem.run_bind, Result.andThen]
theorem headP_all {S : List (List Ty)} {g : Gr} {k mn : Int} (hg : GoodS S) (h : HeadP S g k mn) : AllT S g.locals := ⟨hg, fun t ht => by
 obtain ⟨i, hi, rfl⟩ := List.getElem_of_mem ht
 exact (h.2.1 i hi).1.2⟩
theorem heads_all {S : List (List Ty)} {Fs : List Gr} {mn : Int} (hg : GoodS S) (h : ∀ k (h : k < Fs.length), HeadP S Fs[k] (k : Nat) mn) : ∀ f ∈ Fs, 0 ≤ f.params ∧ f.params < f.locals.length ∧ AllT S f.locals := fun f hf => by
 obtain ⟨k, hk, rfl⟩ := List.getElem_of_mem hf
 exact ⟨(h k hk).1.2.2.1, (h k hk).1.2.2.2.2.1, headP_all hg (h k hk)⟩
structure UnAt (S : List (List Ty)) (Fs : List Gr) (u : AskA) (w : World) : Prop where
 hn : S.length ≤ 1000000
 hl : ∀ i, (fds S i).length ≤ 1000000
 hsc : S.length ≤ u.sc
 hS : StsAt 49 w u.sa S
 hF : FnsAt w u.fa Fs
 hfn : Fs.length ≤ 1000000
 ho : ∀ k (h : k < Fs.length), ∀ j (hj : j < Fs[k].points.length), ptOk Fs[k].points.length Fs[k].points[j] = true
theorem UnAt.kbF {S : List (List Ty)} {Fs : List Gr} {u : AskA} {w w' : World} (h : UnAt S Fs u w) (hk : KB F0 w w') : UnAt S Fs u w' := ⟨h.hn, h.hl, h.hsc, h.hS.kbF hk, h.hF.kbF hk, h.hfn, h.ho⟩
abbrev unC (S : List (List Ty)) (Fs : List Gr) (u : AskA) : Array Value := #[.slice u.sa S.length u.sc, .slice u.fa Fs.length u.fc, .int .i64 u.mn]
set_option maxRecDepth 100000 in
set_option maxHeartbeats 64000000 in
theorem grCheck_any (S : List (List Ty)) (Fs : List Gr) (u : AskA) (w : World) (hU : UnAt S Fs u w) :
  Calls Tryz.prog 84 #[.agg (unC S Fs u)] w (ChkEnd S Fs u.mn w) := by
 obtain ⟨w0, rfl⟩ : ∃ w0, w0 = w := ⟨_, rfl⟩
 obtain ⟨NF, hNF⟩ : ∃ n, n = Fs.length := ⟨_, rfl⟩
 obtain ⟨NS, hNS⟩ : ∃ n, n = S.length := ⟨_, rfl⟩
 have HN := Lib.hid (And.intro hNF hNS)
 obtain ⟨W, hW⟩ : ∃ W, W = w0.alloc (.cells #[.slice u.sa NS u.sc, .slice u.fa NF u.fc, .int .i64 u.mn] 49) := ⟨_, rfl⟩
 have kW : KB F0 w0 W := by rw [hW]; exact (KB.refl _ _).alloc _
 have bW : W.heap[w0.heap.size]? = some (.cells #[.slice u.sa NS u.sc, .slice u.fa NF u.fc, .int .i64 u.mn] 49 (0, 0)) := by rw [hW]; exact alloc_new _ _
 have hsz : W.heap.size = w0.heap.size + 1 := by rw [hW]; simp
 have u0 : W.cell? ⟨w0.heap.size, 0, none⟩ = some (.slice u.sa NS u.sc) := blk_cell bW 0
 have u1 : W.cell? ⟨w0.heap.size, 1, none⟩ = some (.slice u.fa NF u.fc) := blk_cell bW 1
 have u2 : W.cell? ⟨w0.heap.size, 2, none⟩ = some (.int .i64 u.mn) := blk_cell bW 2
 have SC := Lib.hid (tyStructs_any S hU.hn hU.hl u.sa u.sc hU.hsc W (hU.hS.kbF kW))
 unfold unC
 rw [← hNS] at SC ⊢
 rw [← hNF]
 have HW := Lib.hid hW
 have HU := Lib.hid hU
 have HB := Lib.hid (And.intro kW bW)
 have hNb : NF ≤ 1000000 := by rw [hNF]; exact hU.hfn
 clear hW kW bW hU hNF hNS hsz
 go_enter Tryz.func84, Tryz.ntmps84
 go_upto_region 1 with fail
 go_step3
 rw [← HW.out]
 go_wp2_with fail
 refine SC.out.mono ?_
 rintro e w1 ⟨k0, ok, rfl, hst, k1⟩
 have H1 := Lib.hid (And.intro hst (And.intro (HB.out.1.trans k1) (k1.heap (fun x => x) HB.out.2)))
 clear hst k1 SC u0 u1 u2
 have u0 : w1.cell? ⟨w0.heap.size, 0, none⟩ = some (.slice u.sa NS u.sc) := blk_cell H1.out.2.2 0
 have u1 : w1.cell? ⟨w0.heap.size, 1, none⟩ = some (.slice u.fa NF u.fc) := blk_cell H1.out.2.2 1
 have u2 : w1.cell? ⟨w0.heap.size, 2, none⟩ = some (.int .i64 u.mn) := blk_cell H1.out.2.2 2
 cases ok with
 | false =>
  have HNO : Hid (¬ UnitP S Fs u.mn) := Lib.hid (fun h => absurd (H1.out.1.good.2 h.good) (by decide))
  as_aux_lemma =>
  go_wp2_with fail
  all_goals
   (try simp only [Exit.inBlock, Exit.then]); refine bodyPost_ret (results_tmp3 rfl _ _) rfl ?_
   exact chkEnd_no _ _ HNO.out H1.out.2.1
 | true =>
 have HG : Hid (GoodS S) := Lib.hid (H1.out.1.good.1 rfl)
 by_cases n1 : NF < 1
 ·have HNO : Hid (¬ UnitP S Fs u.mn) := Lib.hid (fun h => by have h1 := h.n1; have h2 := HN.out.1; omega)
  have d1 : decide ((NF : Int) < 1) = true := decide_eq_true (by omega)
  as_aux_lemma =>
  go_wp2_with fail
  all_goals
   (try simp only [Exit.inBlock, Exit.then]); refine bodyPost_ret (results_tmp3 rfl _ _) rfl ?_
   exact chkEnd_no _ _ HNO.out H1.out.2.1
 have d1 : decide ((NF : Int) < 1) = false := decide_eq_false (by omega)
 by_cases n2 : 32 < NF
 ·have HNO : Hid (¬ UnitP S Fs u.mn) := Lib.hid (fun h => by have h1 := h.n2; have h2 := HN.out.1; omega)
  have d2 : decide ((32 : Int) < (NF : Int)) = true := decide_eq_true (by omega)
  have d3 : decide (32 < NF) = true := decide_eq_true n2
  as_aux_lemma =>
  go_wp2_with fail
  all_goals
   (try simp only [Exit.inBlock, Exit.then]); refine bodyPost_ret (results_tmp3 rfl _ _) rfl ?_
   exact chkEnd_no _ _ HNO.out H1.out.2.1
 have d2 : decide ((32 : Int) < (NF : Int)) = false := decide_eq_false (by omega)
 have d3 : decide (32 < NF) = false := decide_eq_false n2
 by_cases n3 : u.mn < 0
 ·have HNO : Hid (¬ UnitP S Fs u.mn) := Lib.hid (fun h => by have h1 := h.m1; omega)
  have d4 : decide (u.mn < 0) = true := decide_eq_true n3
  as_aux_lemma =>
  go_wp2_with fail
  all_goals
   (try simp only [Exit.inBlock, Exit.then]); refine bodyPost_ret (results_tmp3 rfl _ _) rfl ?_
   exact chkEnd_no _ _ HNO.out H1.out.2.1
 have d4 : decide (u.mn < 0) = false := decide_eq_false n3
 by_cases n4 : (NF : Int) ≤ u.mn
 ·have HNO : Hid (¬ UnitP S Fs u.mn) := Lib.hid (fun h => by have h1 := h.m2; have h2 := HN.out.1; omega)
  have d5 : decide ((NF : Int) ≤ u.mn) = true := decide_eq_true n4
  as_aux_lemma =>
  go_wp2_with fail
  all_goals
   (try simp only [Exit.inBlock, Exit.then]); refine bodyPost_ret (results_tmp3 rfl _ _) rfl ?_
   exact chkEnd_no _ _ HNO.out H1.out.2.1
 have d5 : decide ((NF : Int) ≤ u.mn) = false := decide_eq_false n4
 have HNB : Hid (1 ≤ NF ∧ NF ≤ 32 ∧ 0 ≤ u.mn ∧ u.mn < NF) := Lib.hid ⟨by omega, by omega, by omega, by omega⟩
 clear n1 n2 n3 n4
 go_upto_region 5 with fail
 go_loopw [2, 49] (fun fv kv wr => ∃ (i : Nat) (z : Int), i ≤ NF ∧ fv = .int .i64 z ∧ kv = .int .i64 (i : Nat) ∧ Hid (KB F0 w1 wr ∧ ∀ k (h : k < Fs.length), k < i → HeadP S Fs[k] (k : Nat) u.mn)) (fun _ kv _ => NF - (intOf kv).toNat)
 case atStart => exact ⟨0, 0, by omega, rfl, rfl, Lib.hid ⟨KB.refl _ _, fun k h hk => by omega⟩⟩
 case round =>
  obtain ⟨i, z, hi, rfl, rfl, hst⟩ := hrel
  by_cases hlt : i < NF
  ·as_aux_lemma =>
   have hiI : (i : Int) < (NF : Int) := by omega
   have di : decide ((i : Int) < (NF : Int)) = true := decide_eq_true hiI
   have hNF : NF ≤ 32 := HNB.out.2.1
   have hiL : i < Fs.length := by rw [← HN.out.1]; exact hlt
   have kr := H1.out.2.1.trans hst.out.1
   have bU := hst.out.1.heap (fun x => x) H1.out.2.2
   have u0 : wr.cell? ⟨w0.heap.size, 0, none⟩ = some (.slice u.sa NS u.sc) := blk_cell bU 0
   have u1 : wr.cell? ⟨w0.heap.size, 1, none⟩ = some (.slice u.fa NF u.fc) := blk_cell bU 1
   have u2 : wr.cell? ⟨w0.heap.size, 2, none⟩ = some (.int .i64 u.mn) := blk_cell bU 2
   have UU := (HU.out.kbF kr)
   have HD := Lib.hid (grHead_any S Fs u wr UU.hn UU.hl UU.hsc UU.hS UU.hF UU.hfn i hiL)
   rw [← HN.out.1, ← HN.out.2] at HD
   have KR := Lib.hid kr
   clear kr UU bU
   go_wp2_with fail
   refine HD.out.mono ?_
   rintro e w3 ⟨ok, rfl, hok, k3⟩
   have K3 := Lib.hid (And.intro hok (And.intro (hst.out.1.trans k3) (KR.out.trans k3)))
   clear hok k3 HD u0 u1 u2
   cases ok with
   | false =>
    have HNO : Hid (¬ UnitP S Fs u.mn) := Lib.hid (fun h => absurd (K3.out.1.2 (h.heads i hiL)) (by decide))
    go_wp2_with fail
    all_goals
     (try simp only [Exit.inBlock, Exit.then]); refine bodyPost_ret (results_tmp3 rfl _ _) rfl ?_
     exact chkEnd_no _ _ HNO.out K3.out.2.2
   | true =>
    have HST : Hid (KB F0 w1 w3 ∧ ∀ k (h : k < Fs.length), k < i + 1 → HeadP S Fs[k] (k : Nat) u.mn) := Lib.hid ⟨K3.out.2.1, fun k h hk => by
     by_cases e : k < i
     ·exact hst.out.2 k h e
     ·obtain rfl : k = i := by omega
      exact K3.out.1.1 (by first | rfl | trivial)⟩
    go_wp2_with fail
    exact ⟨⟨i + 1, (i : Nat), by omega, rfl, by go_num, HST⟩, by simp [intOf]; omega⟩
  ·obtain rfl : i = NF := by omega
   have di : decide ((i : Int) < (i : Int)) = false := decide_eq_false (by omega)
   have HHD : Hid (∀ k (h : k < Fs.length), HeadP S Fs[k] (k : Nat) u.mn) := Lib.hid (fun k h => hst.out.2 k h (by rw [HN.out.1]; exact h))
   have H2 := Lib.hid (And.intro (H1.out.2.1.trans hst.out.1) (hst.out.1.heap (fun x => x) H1.out.2.2))
   have u1 : wr.cell? ⟨w0.heap.size, 1, none⟩ = some (.slice u.fa i u.fc) := blk_cell H2.out.2 1
   clear hst
   go_upto_region 12 with fail
   go_step3
   go_upto_region 12 with fail
   clear u1
   obtain ⟨wA, rfl⟩ : ∃ x, x = wr := ⟨_, rfl⟩
   have hNF : i ≤ 32 := HNB.out.2.1
   go_loopw [7, 61] (fun bv kv wr => ∃ q : Nat, q ≤ i ∧ bv = .bool false ∧ kv = .int .i64 (q : Nat) ∧ Hid (KB F0 wA wr ∧ ∀ k (h : k < Fs.length), k < q → ∀ j (hj : j < Fs[k].points.length), pointB S Fs[k].locals Fs Fs[k].points.length Fs[k].points[j] = true)) (fun _ kv _ => i - (intOf kv).toNat)
   case atStart => exact ⟨0, by omega, rfl, rfl, Lib.hid ⟨KB.refl _ _, fun k h hk => by omega⟩⟩
   case round =>
    obtain ⟨q, hq, rfl, rfl, hst⟩ := hrel
    by_cases hlt : q < i
    ·have hqI : (q : Int) < (i : Int) := by omega
     have dq : decide ((q : Int) < (i : Int)) = true := decide_eq_true hqI
     have hqL : q < Fs.length := by rw [← HN.out.1]; exact hlt
     obtain ⟨fb, fo, d, hfa, hfc, hG⟩ := (HU.out.kbF (H2.out.1.trans hst.out.1)).hF q hqL
     obtain ⟨g, hg⟩ : ∃ g, g = Fs[q] := ⟨_, rfl⟩
     rw [← hg] at hfc hG
     obtain ⟨NL, hNL⟩ : ∃ n, n = g.locals.length := ⟨_, rfl⟩
     obtain ⟨NP, hNP⟩ : ∃ n, n = g.points.length := ⟨_, rfl⟩
     obtain ⟨NN, hNN⟩ : ∃ n, n = g.names.length := ⟨_, rfl⟩
     obtain ⟨NO, hNO⟩ : ∃ n, n = g.outs.length := ⟨_, rfl⟩
     have hc : ∀ j v, (grCs g d)[j]? = some v → wr.cell? ⟨fb, fo + q * 7 + j, none⟩ = some v := fun j v hv => by
      have hj : j < 7 := by
       have := (List.getElem?_eq_some_iff.1 hv).1
       exact this
      rw [hfc j hj]; exact hv
     have q0 : wr.cell? ⟨fb, fo + q * 7, none⟩ = some (.string g.name) := hc 0 _ rfl
     have q1 : wr.cell? ⟨fb, fo + q * 7 + 1, none⟩ = some (.int .i64 g.lives) := hc 1 _ rfl
     have q2 : wr.cell? ⟨fb, fo + q * 7 + 2, none⟩ = some (.slice d.oa NO d.oc) := by rw [hNO]; exact hc 2 _ rfl
     have q3 : wr.cell? ⟨fb, fo + q * 7 + 3, none⟩ = some (.int .i64 g.params) := hc 3 _ rfl
     have q4 : wr.cell? ⟨fb, fo + q * 7 + 4, none⟩ = some (.slice d.la NL d.lc) := by rw [hNL]; exact hc 4 _ rfl
     have q5 : wr.cell? ⟨fb, fo + q * 7 + 5, none⟩ = some (.slice d.na NN d.nc) := by rw [hNN]; exact hc 5 _ rfl
     have q6 : wr.cell? ⟨fb, fo + q * 7 + 6, none⟩ = some (.slice d.pa NP d.pc) := by rw [hNP]; exact hc 6 _ rfl
     have HPW : Hid (1 ≤ NP ∧ NP ≤ 1024) := Lib.hid (by have h1 := (HHD.out q hqL).2.2.1; rw [← hg, ← hNP] at h1; exact h1)
     have hNPb : NP ≤ 1024 := HPW.out.2
     have PT : Hid (∀ (p : Pt) (pd : PtA) (V : World), KB F0 wr V → PtAt V p pd → ptOk NP p = true → Calls Tryz.prog 105 #[.agg #[.slice u.sa NS u.sc, .slice (some ⟨fb, fo, none⟩) i u.fc, .int .i64 u.mn, .string g.name, .int .i64 g.lives, .slice d.oa NO d.oc, .int .i64 g.params, .slice d.la NL d.lc, .slice d.na NN d.nc, .slice d.pa NP d.pc], .agg (ptD p pd)] V fun e w' => e = .returned (.bool (pointB S g.locals Fs NP p)) ∧ KB F0 V w') := Lib.hid (fun p pd V hV hp ho => by
      have UV := HU.out.kbF (H2.out.1.trans hst.out.1)
      have h := grPoint_any S Fs g u d p pd wr V ⟨UV.hn, UV.hl, UV.hsc, by rw [hg]; exact headP_all HG.out (HHD.out q hqL), hV, UV.hS, hG, UV.hF, UV.hfn, heads_all HG.out HHD.out, hp⟩ (by rw [← hNP]; exact ho)
      unfold askD askC at h
      rw [← hNL, ← hNP, ← hNN, ← hNO, ← HN.out.1, ← HN.out.2, hfa] at h
      exact h)
     have HGG := Lib.hid (And.intro hG (And.intro hg hNP))
     have HOK : Hid (∀ j (hj : j < g.points.length), ptOk NP g.points[j] = true) := Lib.hid (fun j hj => by subst hg; rw [hNP]; exact HU.out.ho q hqL j hj)
     have bU := hst.out.1.heap (fun x => x) H2.out.2
     rw [hfa] at bU
     rw [hfa]
     have HQ : Hid (¬ (∀ (j : Nat) (h : j < g.points.length), pointB S g.locals Fs NP g.points[j] = true) → ¬ UnitP S Fs u.mn) := Lib.hid (fun h hu => h (fun j hj => by subst hg; rw [hNP]; exact hu.points q hqL j hj))
     have HST : Hid ((∀ (j : Nat) (h : j < g.points.length), pointB S g.locals Fs NP g.points[j] = true) → ∀ W, KB F0 wr W → (KB F0 wA W ∧ ∀ k (h : k < Fs.length), k < q + 1 → ∀ j (hj : j < Fs[k].points.length), pointB S Fs[k].locals Fs Fs[k].points.length Fs[k].points[j] = true)) := Lib.hid (fun h W hW => ⟨hst.out.1.trans hW, fun k hk hkq j hj => by
      by_cases e : k < q
      ·exact hst.out.2 k hk e j hj
      ·obtain rfl : k = q := by omega
       subst hg
       rw [← hNP]
       exact h j hj⟩)
     have KV := Lib.hid (H2.out.1.trans hst.out.1)
     clear hfc hc hfa hG hg hNL hNP hNN hNO hst
     go_upto_region 14 with fail
     obtain ⟨W2, hW2⟩ : ∃ W2, W2 = wr.alloc (.cells #[.string g.name, .int .i64 g.lives, .slice d.oa NO d.oc, .int .i64 g.params, .slice d.la NL d.lc, .slice d.na NN d.nc, .slice d.pa NP d.pc] 88) := ⟨_, rfl⟩
     have k2 : KB F0 wr W2 := by rw [hW2]; exact (KB.refl _ _).alloc _
     have b2 : W2.heap[wr.heap.size]? = some (.cells #[.string g.name, .int .i64 g.lives, .slice d.oa NO d.oc, .int .i64 g.params, .slice d.la NL d.lc, .slice d.na NN d.nc, .slice d.pa NP d.pc] 88 (0, 0)) := by rw [hW2]; exact alloc_new _ _
     rw [← hW2]
     have u0 : W2.cell? ⟨w0.heap.size, 0, none⟩ = some (.slice u.sa NS u.sc) := blk_cell (k2.heap (fun x => x) bU) 0
     have u1 : W2.cell? ⟨w0.heap.size, 1, none⟩ = some (.slice (some ⟨fb, fo, none⟩) i u.fc) := blk_cell (k2.heap (fun x => x) bU) 1
     have u2 : W2.cell? ⟨w0.heap.size, 2, none⟩ = some (.int .i64 u.mn) := blk_cell (k2.heap (fun x => x) bU) 2
     have g0 : W2.cell? ⟨wr.heap.size, 0, none⟩ = some (.string g.name) := blk_cell b2 0
     have g1 : W2.cell? ⟨wr.heap.size, 1, none⟩ = some (.int .i64 g.lives) := blk_cell b2 1
     have g2 : W2.cell? ⟨wr.heap.size, 2, none⟩ = some (.slice d.oa NO d.oc) := blk_cell b2 2
     have g3 : W2.cell? ⟨wr.heap.size, 3, none⟩ = some (.int .i64 g.params) := blk_cell b2 3
     have g4 : W2.cell? ⟨wr.heap.size, 4, none⟩ = some (.slice d.la NL d.lc) := blk_cell b2 4
     have g5 : W2.cell? ⟨wr.heap.size, 5, none⟩ = some (.slice d.na NN d.nc) := blk_cell b2 5
     have g6 : W2.cell? ⟨wr.heap.size, 6, none⟩ = some (.slice d.pa NP d.pc) := blk_cell b2 6
     obtain ⟨B9, hB9⟩ : ∃ n, n = wr.heap.size := ⟨_, rfl⟩
     rw [← hB9] at g0 g1 g2 g3 g4 g5 g6 b2 ⊢
     have HK2 := Lib.hid (And.intro k2 b2)
     clear hW2 k2 b2 q0 q1 q2 q3 q4 q5 q6 hB9 bU
     go_upto_region 15 with fail
     obtain ⟨W3, hW3⟩ : ∃ W3, W3 = W2.alloc (.cells #[.slice u.sa NS u.sc, .slice (some ⟨fb, fo, none⟩) i u.fc, .int .i64 u.mn, .string g.name, .int .i64 g.lives, .slice d.oa NO d.oc, .int .i64 g.params, .slice d.la NL d.lc, .slice d.na NN d.nc, .slice d.pa NP d.pc] 175) := ⟨_, rfl⟩
     have k3 : KB F0 W2 W3 := by rw [hW3]; exact (KB.refl _ _).alloc _
     have b3 : W3.heap[W2.heap.size]? = some (.cells #[.slice u.sa NS u.sc, .slice (some ⟨fb, fo, none⟩) i u.fc, .int .i64 u.mn, .string g.name, .int .i64 g.lives, .slice d.oa NO d.oc, .int .i64 g.params, .slice d.la NL d.lc, .slice d.na NN d.nc, .slice d.pa NP d.pc] 175 (0, 0)) := by rw [hW3]; exact alloc_new _ _
     rw [← hW3]
     obtain ⟨B10, hB10⟩ : ∃ n, n = W2.heap.size := ⟨_, rfl⟩
     rw [← hB10] at b3 ⊢
     have h6 : W3.cell? ⟨B9, 6, none⟩ = some (.slice d.pa NP d.pc) := blk_cell (k3.heap (fun x => x) HK2.out.2) 6
     have HK3 := Lib.hid (And.intro (HK2.out.1.trans k3) b3)
     clear hW3 k3 b3 g0 g1 g2 g3 g4 g5 g6 u0 u1 u2 hB10
     go_upto_region 16 with fail
     clear h6
     obtain ⟨wB, rfl⟩ : ∃ x, x = wr := ⟨_, rfl⟩
     go_loopw [7, 72] (fun bv kv wv => ∃ j : Nat, j ≤ NP ∧ bv = .bool false ∧ kv = .int .i64 (j : Nat) ∧ Hid (KB F0 W3 wv ∧ ∀ k (h : k < g.points.length), k < j → pointB S g.locals Fs NP g.points[k] = true)) (fun _ kv _ => NP - (intOf kv).toNat)
     case atStart => exact ⟨0, by omega, rfl, rfl, Lib.hid ⟨KB.refl _ _, fun k h hk => by omega⟩⟩
     case round =>
      obtain ⟨j, hj, rfl, rfl, hst⟩ := hrel
      by_cases hlt : j < NP
      ·as_aux_lemma =>
       have hjI : (j : Int) < (NP : Int) := by omega
       have dj : decide ((j : Int) < (NP : Int)) = true := decide_eq_true hjI
       have hjL : j < g.points.length := by rw [← HGG.out.2.2]; exact hlt
       obtain ⟨pb, po, pd, hpa, hpc, hpt⟩ := (HGG.out.1.points.kbF (HK3.out.1.trans hst.out.1)) j hjL
       obtain ⟨p, hp⟩ : ∃ p, p = g.points[j] := ⟨_, rfl⟩
       rw [← hp] at hpc hpt
       have HRA : Hid (wr.rangeAt pb (po + j * 21) (ptD p pd).toList) := Lib.hid (fun q v hv => by
        have hq : q < 21 := (List.getElem?_eq_some_iff.1 hv).1
        have h := hpc q hq
        rw [h]
        simpa using hv)
       have bA := hst.out.1.heap (fun x => x) HK3.out.2
       rw [hpa] at bA PT ⊢
       obtain ⟨B, hB⟩ : ∃ B, B = pointB S g.locals Fs NP p := ⟨_, rfl⟩
       obtain ⟨w4, hw4⟩ : ∃ w4, w4 = wr.alloc (.cells (ptD p pd) 129) := ⟨_, rfl⟩
       have k4 : KB F0 wr w4 := by rw [hw4]; exact (KB.refl _ _).alloc _
       have b4 : w4.heap[wr.heap.size]? = some (.cells (ptD p pd) 129 (0, 0)) := by rw [hw4]; exact alloc_new _ _
       have PC := Lib.hid (PT.out p pd w4 (HK3.out.1.trans (hst.out.1.trans k4)) (hpt.kbF k4) (by rw [hp]; exact HOK.out j hjL))
       rw [← hB] at PC
       have HPB : Hid (B = pointB S g.locals Fs NP g.points[j]) := Lib.hid (by rw [hB, hp])
       have HW4 := Lib.hid hw4
       have b10 := k4.heap (fun x => x) bA
       have HB4 := Lib.hid b4
       have K4 := Lib.hid (hst.out.1.trans k4)
       have KE := Lib.hid (KV.out.trans (HK3.out.1.trans (hst.out.1.trans k4)))
       have hst2 := Lib.hid hst.out.2
       clear hpc hp hpt hB hw4 k4 b4 bA PT hpa hst
       go_upto_region 18 with (first | (with_reducible refine atLoadPt (.tmp 75) ?_); refine loadPtMid (o := ⟨_, Op.load 129 (.tmp 75), _, _, _, none⟩) rfl (.tmp 75) rfl pb (po + j * 21) rfl _ rfl HRA.out ?_ | (with_reducible refine atAllocPt ?_); refine layPtA (o1 := ⟨_, Op.alloc 129, _, _, _, none⟩) (om := ⟨_, Op.assign (.tmp 74), _, _, _, none⟩) (o2 := ⟨_, Op.store 129 (.tmp 12) (.tmp 76), _, _, _, none⟩) rfl rfl rfl (.tmp 12) (.tmp 74) (.tmp 76) rfl rfl rfl rfl (ptD p pd) rfl (ptD_one p pd) (.int .i64 (j : Nat)) (fun _ => rfl) (fun _ => rfl) (fun _ => rfl) ?_)
       rw [← HW4.out]
       have x0 : w4.cell? ⟨B10, 0, none⟩ = some (.slice u.sa NS u.sc) := blk_cell b10 0
       have x1 : w4.cell? ⟨B10, 1, none⟩ = some (.slice (some ⟨fb, fo, none⟩) i u.fc) := blk_cell b10 1
       have x2 : w4.cell? ⟨B10, 2, none⟩ = some (.int .i64 u.mn) := blk_cell b10 2
       have x3 : w4.cell? ⟨B10, 3, none⟩ = some (.string g.name) := blk_cell b10 3
       have x4 : w4.cell? ⟨B10, 4, none⟩ = some (.int .i64 g.lives) := blk_cell b10 4
       have x5 : w4.cell? ⟨B10, 5, none⟩ = some (.slice d.oa NO d.oc) := blk_cell b10 5
       have x6 : w4.cell? ⟨B10, 6, none⟩ = some (.int .i64 g.params) := blk_cell b10 6
       have x7 : w4.cell? ⟨B10, 7, none⟩ = some (.slice d.la NL d.lc) := blk_cell b10 7
       have x8 : w4.cell? ⟨B10, 8, none⟩ = some (.slice d.na NN d.nc) := blk_cell b10 8
       have x9 : w4.cell? ⟨B10, 9, none⟩ = some (.slice (some ⟨pb, po, none⟩) NP d.pc) := blk_cell b10 9
       clear b10
       go_wp2_with ((with_reducible refine atLoadPt (.tmp 12) ?_); refine loadPt (o := ⟨_, Op.load 129 (.tmp 12), _, _, _, none⟩) rfl (.tmp 12) rfl wr.heap.size rfl _ rfl HB4.out ?_)
       refine PC.out.mono ?_
       rintro e w5 ⟨rfl, k5⟩
       have K5 := Lib.hid (K4.out.trans k5)
       have KE5 := Lib.hid (KE.out.trans k5)
       clear x0 x1 x2 x3 x4 x5 x6 x7 x8 x9 k5 PC
       cases B with
       | false =>
        have HNO : Hid (¬ UnitP S Fs u.mn) := Lib.hid (HQ.out (fun h => absurd (HPB.out.trans (h j hjL)) (by decide)))
        go_wp2_with fail
        all_goals
         (try simp only [Exit.inBlock, Exit.then]); refine bodyPost_ret (results_tmp3 rfl _ _) rfl ?_
         exact chkEnd_no _ _ HNO.out KE5.out
       | true =>
        have HN2 : Hid (KB F0 W3 w5 ∧ ∀ k (h : k < g.points.length), k < j + 1 → pointB S g.locals Fs NP g.points[k] = true) := Lib.hid ⟨K5.out, fun k h hk => by
         by_cases e : k < j
         ·exact hst2.out k h e
         ·obtain rfl : k = j := by omega
          exact HPB.out.symm⟩
        go_wp2_with fail
        exact ⟨⟨j + 1, by omega, rfl, by go_num, HN2⟩, by simp [intOf]; omega⟩
      ·obtain rfl : j = NP := by omega
       have dj : decide ((j : Int) < (j : Int)) = false := decide_eq_false (by omega)
       have HNX := Lib.hid (HST.out (fun k h => hst.out.2 k h (by rw [HGG.out.2.2]; exact h)) wr (HK3.out.1.trans hst.out.1))
       clear hst
       go_wp2_with fail
       exact ⟨⟨q + 1, by omega, rfl, by go_num, HNX⟩, by simp [intOf]; omega⟩
    ·obtain rfl : q = i := by omega
     have dq : decide ((q : Int) < (q : Int)) = false := decide_eq_false (by omega)
     have HYES : Hid (UnitP S Fs u.mn) := Lib.hid ⟨HG.out, by have h1 := HNB.out.1; have h2 := HN.out.1; omega, by have h1 := HNB.out.2.1; have h2 := HN.out.1; omega, HNB.out.2.2.1, by have h1 := HNB.out.2.2.2; have h2 := HN.out.1; omega, HHD.out, fun k h j hj => hst.out.2 k h (by rw [HN.out.1]; exact h) j hj⟩
     have KE := Lib.hid (H2.out.1.trans hst.out.1)
     clear hst
     go_wp2_with fail
     (try simp only [Exit.inBlock, Exit.then]); refine bodyPost_ret (results_tmp3 rfl _ _) rfl ?_
     exact chkEnd_yes _ _ HYES.out KE.out
set_option maxRecDepth 100000 in
set_option maxHeartbeats 8000000 in
theorem grMay_any (S : List (List Ty)) (Fs : List Gr) (u : AskA) (w : World) (hU : UnAt S Fs u w) :
  Calls Tryz.prog 53 #[.agg (unC S Fs u)] w (BoolEnd (UnitP S Fs u.mn) w) := by
 obtain ⟨w0, rfl⟩ : ∃ w0, w0 = w := ⟨_, rfl⟩
 obtain ⟨W, hW⟩ : ∃ W, W = w0.alloc (.cells #[.slice u.sa S.length u.sc, .slice u.fa Fs.length u.fc, .int .i64 u.mn] 49) := ⟨_, rfl⟩
 have kW : KB F0 w0 W := by rw [hW]; exact (KB.refl _ _).alloc _
 have bW : W.heap[w0.heap.size]? = some (.cells #[.slice u.sa S.length u.sc, .slice u.fa Fs.length u.fc, .int .i64 u.mn] 49 (0, 0)) := by rw [hW]; exact alloc_new _ _
 have CK := Lib.hid (grCheck_any S Fs u W (hU.kbF kW))
 unfold unC at CK ⊢
 obtain ⟨NF, hNF⟩ : ∃ n, n = Fs.length := ⟨_, rfl⟩
 obtain ⟨NS, hNS⟩ : ∃ n, n = S.length := ⟨_, rfl⟩
 rw [← hNF, ← hNS] at CK bW hW ⊢
 have u0 : W.cell? ⟨w0.heap.size, 0, none⟩ = some (.slice u.sa NS u.sc) := blk_cell bW 0
 have u1 : W.cell? ⟨w0.heap.size, 1, none⟩ = some (.slice u.fa NF u.fc) := blk_cell bW 1
 have u2 : W.cell? ⟨w0.heap.size, 2, none⟩ = some (.int .i64 u.mn) := blk_cell bW 2
 have HW := Lib.hid hW
 have HB := Lib.hid kW
 clear hW kW bW hU hNF hNS
 go_enter Tryz.func53, Tryz.ntmps53
 go_upto_region 1 with fail
 rw [← HW.out]
 go_wp2_with fail
 refine CK.out.mono ?_
 rintro e w1 ⟨f, a, ok, rfl, hok, k1⟩
 have HE : Hid (BoolEnd (UnitP S Fs u.mn) w0 (.returned (.bool ok)) w1) := Lib.hid ⟨ok, rfl, hok, HB.out.trans k1⟩
 clear hok k1 CK u0 u1 u2
 cases ok with
 | true =>
  have hz : chkErr true = 0 := rfl
  rw [hz]
  go_wp2_with fail
  go_ret
  exact HE.out
 | false =>
  have hz : chkErr false = 100 := rfl
  rw [hz]
  go_wp2_with fail
  go_ret
  exact HE.out
end Go.Proofs.YtaeppaaolkcbbaaGreatDoor

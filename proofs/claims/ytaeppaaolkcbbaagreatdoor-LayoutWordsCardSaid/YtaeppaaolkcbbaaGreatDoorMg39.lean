/- layout.of: a program's table. -/
import Derived.Test.YtaeppaaolkcbbaaGreatDoorMg31
import Derived.Test.YtaeppaaolkcbbaaGreatDoorMg38
namespace Go.Proofs.YtaeppaaolkcbbaaGreatDoor
open Go.RowKit

def stL (S : List (List Ty)) (i : Nat) : List Ty := (List.range i).foldl (fun L k => meetN S 4098 (sTy k) L) []
def loL (S : List (List Ty)) (l : List Ty) (L : List Ty) : List Ty := l.foldl (fun L t => meetN S 4098 t L) L
def fnL (S : List (List Ty)) (Fs : List Gr) (q : Nat) : List Ty := (Fs.take q).foldl (fun L g => loL S g.locals L) (stL S S.length)
def ofL (S : List (List Ty)) (Fs : List Gr) : List Ty := fnL S Fs Fs.length
theorem stL_succ (S : List (List Ty)) (i : Nat) : stL S (i + 1) = meetN S 4098 (sTy i) (stL S i) := by
 unfold stL; rw [List.range_succ, List.foldl_append]; rfl
theorem loL_snoc (S : List (List Ty)) (l : List Ty) (t : Ty) (L : List Ty) : loL S (l ++ [t]) L = meetN S 4098 t (loL S l L) := by
 unfold loL; rw [List.foldl_append]; rfl
theorem fnL_succ (S : List (List Ty)) (Fs : List Gr) (q : Nat) (h : q < Fs.length) : fnL S Fs (q + 1) = loL S Fs[q].locals (fnL S Fs q) := by
 unfold fnL; rw [List.take_add_one, List.getElem?_eq_getElem h, Option.toList_some, List.foldl_append]; rfl
theorem loL_max (S : List (List Ty)) : ∀ (l L : List Ty), L.length ≤ 4097 → (loL S l L).length ≤ 4097 := by
 intro l
 induction l with
 | nil => intro L h; exact h
 | cons t l ih => intro L h; exact ih _ (meetN_max S 4098 t L h)
theorem stL_max (S : List (List Ty)) : ∀ i, (stL S i).length ≤ 4097 := by
 intro i
 induction i with
 | zero => exact Nat.zero_le _
 | succ i ih => rw [stL_succ]; exact meetN_max S 4098 _ _ ih
theorem fnL_max (S : List (List Ty)) (Fs : List Gr) : ∀ q, q ≤ Fs.length → (fnL S Fs q).length ≤ 4097 := by
 intro q
 induction q with
 | zero => intro _; exact stL_max S _
 | succ q ih => intro h; rw [fnL_succ S Fs q (by omega)]; exact loL_max S _ _ (ih (by omega))
theorem sTy_look {S : List (List Ty)} {i : Nat} (h : i < S.length) : lookB S.length 48 (sTy i) = true := by
 unfold lookB sTy
 simp [Ty.k, Ty.m, Ty.r, Ty.of, Ty.s]
 exact h
theorem sTy_at (w : World) (i : Nat) : TyAt 49 w (sTy i) none 0 := ⟨Nat.le_refl _, fun k hk => by cases hk⟩
def OfEnd (S : List (List Ty)) (Fs : List Gr) (u : AskA) (w : World) (e : Ending) (w' : World) : Prop :=
 KB F0 w w' ∧ ((¬ UnitP S Fs u.mn ∧ e = .returned (.tuple #[.pointer none, .int .i64 2])) ∨ (UnitP S Fs u.mn ∧ 4096 < (ofL S Fs).length ∧ e = .returned (.tuple #[.pointer none, .int .i64 230])) ∨
  (UnitP S Fs u.mn ∧ (ofL S Fs).length ≤ 4096 ∧ ∃ X mb, e = .returned (.tuple #[.pointer (some ⟨X, 0, none⟩), .int .i64 0]) ∧ TabInv w S.length u.sa u.sc X mb (ofL S Fs) w'))
set_option maxRecDepth 100000 in
set_option maxHeartbeats 64000000 in
theorem lyof_any (S : List (List Ty)) (Fs : List Gr) (u : AskA) (w : World) (hU : UnAt S Fs u w) :
  Calls Tryz.prog 45 #[.agg (unC S Fs u)] w (OfEnd S Fs u w) := by
 obtain ⟨w0, rfl⟩ : ∃ w0, w0 = w := ⟨_, rfl⟩
 obtain ⟨NF, hNF⟩ : ∃ n, n = Fs.length := ⟨_, rfl⟩
 obtain ⟨NS, hNS⟩ : ∃ n, n = S.length := ⟨_, rfl⟩
 have HN := Lib.hid (And.intro hNF hNS)
 obtain ⟨W, hW⟩ : ∃ W, W = w0.alloc (.cells #[.slice u.sa NS u.sc, .slice u.fa NF u.fc, .int .i64 u.mn] 49) := ⟨_, rfl⟩
 have kW : KB F0 w0 W := by rw [hW]; exact (KB.refl _ _).alloc _
 have bW : W.heap[w0.heap.size]? = some (.cells #[.slice u.sa NS u.sc, .slice u.fa NF u.fc, .int .i64 u.mn] 49 (0, 0)) := by rw [hW]; exact alloc_new _ _
 have u0 : W.cell? ⟨w0.heap.size, 0, none⟩ = some (.slice u.sa NS u.sc) := blk_cell bW 0
 have u1 : W.cell? ⟨w0.heap.size, 1, none⟩ = some (.slice u.fa NF u.fc) := blk_cell bW 1
 have u2 : W.cell? ⟨w0.heap.size, 2, none⟩ = some (.int .i64 u.mn) := blk_cell bW 2
 have MY := Lib.hid (grMay_any S Fs u W (hU.kbF kW))
 unfold unC at MY ⊢
 rw [← hNF, ← hNS] at MY ⊢
 have HW := Lib.hid hW
 have HU := Lib.hid hU
 have HB := Lib.hid (And.intro kW bW)
 clear hW kW bW hU hNF hNS
 go_enter Tryz.func45, Tryz.ntmps45
 go_upto_region 1 with fail
 rw [← HW.out]
 go_wp2_with fail
 refine MY.out.mono ?_
 rintro e w1 ⟨ok, rfl, hok, k1⟩
 have H1 := Lib.hid (And.intro hok (And.intro (HB.out.1.trans k1) (k1.heap (fun x => x) HB.out.2)))
 clear hok k1 MY u0 u1 u2
 cases ok with
 | false =>
  have HNO : Hid (¬ UnitP S Fs u.mn) := Lib.hid (fun h => absurd (H1.out.1.2 h) (by decide))
  as_aux_lemma =>
  go_wp2_with fail
  go_ret2
  exact ⟨H1.out.2.1, Or.inl ⟨HNO.out, rfl⟩⟩
 | true =>
 have HUP : Hid (UnitP S Fs u.mn) := Lib.hid (H1.out.1.1 rfl)
 have u0 : w1.cell? ⟨w0.heap.size, 0, none⟩ = some (.slice u.sa NS u.sc) := blk_cell H1.out.2.2 0
 have hmm := @run_makeMap Tryz.prog 107
 go_upto_region 4 with fail
 obtain ⟨w2, h2⟩ : ∃ w2, w2 = (w1.alloc (.map #[] 0)).alloc (.cells #[.slice u.sa NS u.sc, .map (some w1.heap.size), .slice none 0 0] 109) := ⟨_, rfl⟩
 rw [← h2]
 have k2 : KB F0 w1 w2 := by rw [h2]; exact ((KB.refl _ _).alloc _).alloc _
 have T2 : Hid (TabInv w0 S.length u.sa u.sc (w1.heap.size + 1) w1.heap.size [] w2) := by
  have hs := H1.out.2.1.size
  have hm := (mapIs_made w1).kb (S := F0) (w' := w2) (by rw [h2]; exact (KB.refl _ _).alloc _) (fun x => x)
  refine Lib.hid ⟨_, _, H1.out.2.1.trans k2, by omega, hs, ?_, hm, ownTl_nil _ _⟩
  have := alloc_new (w1.alloc (.map #[] 0)) (.cells #[.slice u.sa NS u.sc, .map (some w1.heap.size), .slice none 0 0] 109)
  rw [← h2, HN.out.2, show (w1.alloc (.map #[] 0)).heap.size = w1.heap.size + 1 by simp] at this
  exact this
 have HU2 := Lib.hid (k2.heap (fun x => x) H1.out.2.2)
 obtain ⟨X, hX⟩ : ∃ X, X = w1.heap.size + 1 := ⟨_, rfl⟩
 obtain ⟨mb, hmb⟩ : ∃ X, X = w1.heap.size := ⟨_, rfl⟩
 rw [← hX, ← hmb] at T2
 rw [← hX, ← hmb]
 have u0 : w2.cell? ⟨w0.heap.size, 0, none⟩ = some (.slice u.sa NS u.sc) := blk_cell HU2.out 0
 have hNSb : NS ≤ 32 := by have h1 := HUP.out.good.len; have h3 := HN.out.2; omega
 have hNFb : NF ≤ 32 := by have h1 := HUP.out.n2; have h3 := HN.out.1; omega
 clear h2 k2 hX hmb hmm
 go_upto_region 5 with fail
 clear u0
 go_loopw [21] (fun kv wr => ∃ i : Nat, i ≤ NS ∧ kv = .int .i64 (i : Nat) ∧ Hid (TabInv w0 S.length u.sa u.sc X mb (stL S i) wr ∧ wr.heap[w0.heap.size]? = some (.cells #[.slice u.sa NS u.sc, .slice u.fa NF u.fc, .int .i64 u.mn] 49 (0, 0)))) (fun kv _ => NS - (intOf kv).toNat)
 case atStart => exact ⟨0, by omega, rfl, Lib.hid ⟨T2.out, HU2.out⟩⟩
 case round =>
  obtain ⟨i, hi, rfl, hst⟩ := hrel
  by_cases hlt : i < NS
  ·as_aux_lemma =>
   have hiI : (i : Int) < (NS : Int) := by omega
   have di : decide ((i : Int) < (NS : Int)) = true := decide_eq_true hiI
   have hiL : i < S.length := by rw [← HN.out.2]; exact hlt
   have MT := Lib.hid (meet_any w0 S HUP.out.good u.sa u.sc HU.out.hS X mb 4098 (sTy i) none 0 (stL S i) wr (sTy_look hiL) (sTy_at _ _) hst.out.1 (stL_max S i) (by omega))
   unfold tyV at MT
   have e1 : (sTy i).k = 5 := rfl
   have e2 : (sTy i).m = false := rfl
   have e3 : (sTy i).r = 0 := rfl
   have e4 : (sTy i).s = (i : Nat) := rfl
   have e5 : (sTy i).of.length = 0 := rfl
   rw [e1, e2, e3, e4, e5] at MT
   have HU3 := Lib.hid hst.out.2
   have HTT := Lib.hid hst.out.1
   clear e1 e2 e3 e4 e5 hst
   go_wp2_with fail
   refine MT.out.mono ?_
   rintro e w3 ⟨rfl, h3, h4⟩
   have HN2 : Hid (TabInv w0 S.length u.sa u.sc X mb (stL S (i + 1)) w3 ∧ w3.heap[w0.heap.size]? = some (.cells #[.slice u.sa NS u.sc, .slice u.fa NF u.fc, .int .i64 u.mn] 49 (0, 0))) := by
    obtain ⟨v, us, hT⟩ := HTT.out
    exact Lib.hid ⟨by rw [stL_succ]; exact h3, h4.kb.heap (tabP_not hT HU3.out (by decide) (by decide)) HU3.out⟩
   clear h3 h4 MT
   go_wp2_with fail
   exact ⟨⟨i + 1, by omega, by go_num, HN2⟩, by simp [intOf]; omega⟩
  ·obtain rfl : i = NS := by omega
   have di : decide ((i : Int) < (i : Int)) = false := decide_eq_false (by omega)
   have H3 : Hid (TabInv w0 S.length u.sa u.sc X mb (fnL S Fs 0) wr ∧ wr.heap[w0.heap.size]? = some (.cells #[.slice u.sa i u.sc, .slice u.fa NF u.fc, .int .i64 u.mn] 49 (0, 0))) := Lib.hid ⟨by have h := hst.out.1; rw [HN.out.2] at h; exact h, hst.out.2⟩
   have u1 : wr.cell? ⟨w0.heap.size, 1, none⟩ = some (.slice u.fa NF u.fc) := blk_cell H3.out.2 1
   clear hst
   go_upto_region 10 with fail
   clear u1
   obtain ⟨wA, rfl⟩ : ∃ x, x = wr := ⟨_, rfl⟩
   go_loopw [32] (fun kv wv => ∃ q : Nat, q ≤ NF ∧ kv = .int .i64 (q : Nat) ∧ Hid (TabInv w0 S.length u.sa u.sc X mb (fnL S Fs q) wv ∧ wv.heap[w0.heap.size]? = some (.cells #[.slice u.sa i u.sc, .slice u.fa NF u.fc, .int .i64 u.mn] 49 (0, 0)))) (fun kv _ => NF - (intOf kv).toNat)
   case atStart => exact ⟨0, by omega, rfl, Lib.hid H3.out⟩
   case round =>
    obtain ⟨q, hq, rfl, hst⟩ := hrel
    by_cases hlt : q < NF
    ·as_aux_lemma =>
     have hqI : (q : Int) < (NF : Int) := by omega
     have dq : decide ((q : Int) < (NF : Int)) = true := decide_eq_true hqI
     have hqL : q < Fs.length := by rw [← HN.out.1]; exact hlt
     have kr : KB F0 w0 wr := by obtain ⟨v, us, hT⟩ := hst.out.1; exact hT.kb
     obtain ⟨fb, fo, d, hfa, hfc, hG⟩ := HU.out.hF q hqL
     obtain ⟨g, hg⟩ : ∃ g, g = Fs[q] := ⟨_, rfl⟩
     rw [← hg] at hfc hG
     obtain ⟨NL, hNL⟩ : ∃ n, n = g.locals.length := ⟨_, rfl⟩
     obtain ⟨NP, hNP⟩ : ∃ n, n = g.points.length := ⟨_, rfl⟩
     obtain ⟨NN, hNN⟩ : ∃ n, n = g.names.length := ⟨_, rfl⟩
     obtain ⟨NO, hNO⟩ : ∃ n, n = g.outs.length := ⟨_, rfl⟩
     have hc : ∀ j v, (grCs g d)[j]? = some v → wr.cell? ⟨fb, fo + q * 7 + j, none⟩ = some v := fun j v hv => by
      have hj : j < 7 := by
       have := (List.getElem?_eq_some_iff.1 hv).1
       exact this
      have h := hfc j hj
      rw [hv] at h
      exact kr.cell (p := ⟨fb, fo + q * 7 + j, none⟩) (fun x => x) h
     have q0 : wr.cell? ⟨fb, fo + q * 7, none⟩ = some (.string g.name) := hc 0 _ rfl
     have q1 : wr.cell? ⟨fb, fo + q * 7 + 1, none⟩ = some (.int .i64 g.lives) := hc 1 _ rfl
     have q2 : wr.cell? ⟨fb, fo + q * 7 + 2, none⟩ = some (.slice d.oa NO d.oc) := by rw [hNO]; exact hc 2 _ rfl
     have q3 : wr.cell? ⟨fb, fo + q * 7 + 3, none⟩ = some (.int .i64 g.params) := hc 3 _ rfl
     have q4 : wr.cell? ⟨fb, fo + q * 7 + 4, none⟩ = some (.slice d.la NL d.lc) := by rw [hNL]; exact hc 4 _ rfl
     have q5 : wr.cell? ⟨fb, fo + q * 7 + 5, none⟩ = some (.slice d.na NN d.nc) := by rw [hNN]; exact hc 5 _ rfl
     have q6 : wr.cell? ⟨fb, fo + q * 7 + 6, none⟩ = some (.slice d.pa NP d.pc) := by rw [hNP]; exact hc 6 _ rfl
     have hNLb : NL ≤ 512 := by have h1 := (HUP.out.heads q hqL).1.2.2.2.2.2.1; rw [← hg, ← hNL] at h1; exact h1
     have HMT : Hid (∀ j (h : j < g.locals.length), lookB S.length 48 g.locals[j] = true) := Lib.hid (fun j h => by subst hg; exact ((HUP.out.heads q hqL).2.1 j h).1.2)
     have HLO : Hid (TysAt 49 w0 d.la g.locals) := Lib.hid hG.locals
     have HNX : Hid (fnL S Fs (q + 1) = loL S g.locals (fnL S Fs q) ∧ (fnL S Fs q).length ≤ 4097 ∧ NL = g.locals.length) := Lib.hid ⟨by rw [fnL_succ S Fs q hqL, hg], fnL_max S Fs q (by omega), hNL⟩
     have HST := Lib.hid hst.out
     rw [hfa]
     have bU := hst.out.2
     rw [hfa] at bU
     have HBU := Lib.hid bU
     clear hfc hc hfa hG hg hNL hNP hNN hNO hst kr bU
     go_upto_region 12 with fail
     obtain ⟨W2, hW2⟩ : ∃ W2, W2 = wr.alloc (.cells #[.string g.name, .int .i64 g.lives, .slice d.oa NO d.oc, .int .i64 g.params, .slice d.la NL d.lc, .slice d.na NN d.nc, .slice d.pa NP d.pc] 88) := ⟨_, rfl⟩
     have k2 : KB F0 wr W2 := by rw [hW2]; exact (KB.refl _ _).alloc _
     have b2 : W2.heap[wr.heap.size]? = some (.cells #[.string g.name, .int .i64 g.lives, .slice d.oa NO d.oc, .int .i64 g.params, .slice d.la NL d.lc, .slice d.na NN d.nc, .slice d.pa NP d.pc] 88 (0, 0)) := by rw [hW2]; exact alloc_new _ _
     rw [← hW2]
     have g4 : W2.cell? ⟨wr.heap.size, 4, none⟩ = some (.slice d.la NL d.lc) := blk_cell b2 4
     have HK2 : Hid (TabInv w0 S.length u.sa u.sc X mb (fnL S Fs q) W2 ∧ W2.heap[w0.heap.size]? = some (.cells #[.slice u.sa i u.sc, .slice (some ⟨fb, fo, none⟩) NF u.fc, .int .i64 u.mn] 49 (0, 0))) := by
      obtain ⟨v, us, hT⟩ := HST.out.1
      exact Lib.hid ⟨⟨v, us, hT.kbF k2⟩, k2.heap (fun x => x) HBU.out⟩
     obtain ⟨B9, hB9⟩ : ∃ n, n = wr.heap.size := ⟨_, rfl⟩
     rw [← hB9] at g4 ⊢
     clear hW2 k2 b2 q0 q1 q2 q3 q4 q5 q6 hB9
     go_upto_region 13 with fail
     clear g4
     obtain ⟨wB, rfl⟩ : ∃ x, x = wr := ⟨_, rfl⟩
     go_loopw [39] (fun kv wv => ∃ j : Nat, j ≤ NL ∧ kv = .int .i64 (j : Nat) ∧ Hid (TabInv w0 S.length u.sa u.sc X mb (loL S (g.locals.take j) (fnL S Fs q)) wv ∧ wv.heap[w0.heap.size]? = some (.cells #[.slice u.sa i u.sc, .slice (some ⟨fb, fo, none⟩) NF u.fc, .int .i64 u.mn] 49 (0, 0)))) (fun kv _ => NL - (intOf kv).toNat)
     case atStart => exact ⟨0, by omega, rfl, Lib.hid HK2.out⟩
     case round =>
      obtain ⟨j, hj, rfl, hst⟩ := hrel
      by_cases hlt : j < NL
      ·as_aux_lemma =>
       have hjI : (j : Int) < (NL : Int) := by omega
       have dj : decide ((j : Int) < (NL : Int)) = true := decide_eq_true hjI
       have hjL : j < g.locals.length := by rw [← HNX.out.2.2]; exact hlt
       obtain ⟨tb, tf, ta, tc, hla, hty, hta⟩ := HLO.out j hjL
       have e2 : g.locals.getD j ty0 = g.locals[j] := by rw [List.getD_eq_getElem?_getD, List.getElem?_eq_getElem hjL]; rfl
       rw [e2] at hty hta
       obtain ⟨t, ht⟩ : ∃ t, t = g.locals[j] := ⟨_, rfl⟩
       rw [← ht] at hty hta
       have kr : KB F0 w0 wr := by obtain ⟨v, us, hT⟩ := hst.out.1; exact hT.kb
       obtain ⟨t0, t1, t2, t3, t4⟩ := hty.kbF kr
       rw [hla]
       have HTK : Hid (g.locals.take (j + 1) = g.locals.take j ++ [t]) := Lib.hid (by rw [List.take_add_one, List.getElem?_eq_getElem hjL, ht]; rfl)
       have HLK : Hid (lookB S.length 48 t = true) := Lib.hid (by rw [ht]; exact HMT.out j hjL)
       have HTA := Lib.hid hta
       obtain ⟨w4, h4⟩ : ∃ w4, w4 = wr.alloc (.cells #[.int .u8 t.k, .bool t.m, .int .i64 t.r, .int .i64 t.s, .slice ta t.of.length tc] 26) := ⟨_, rfl⟩
       obtain ⟨kt, bt⟩ := boxTy wr t ta tc
       rw [← h4] at kt bt
       have MT := Lib.hid (meet_any w0 S HUP.out.good u.sa u.sc HU.out.hS X mb 4098 t ta tc (loL S (g.locals.take j) (fnL S Fs q)) w4 HLK.out hta (by obtain ⟨v, us, hT⟩ := hst.out.1; exact ⟨v, us, hT.kbF kt⟩) (loL_max S _ _ HNX.out.2.1) (by omega))
       have HT4 : Hid (TabInv w0 S.length u.sa u.sc X mb (loL S (g.locals.take j) (fnL S Fs q)) w4 ∧ w4.heap[w0.heap.size]? = some (.cells #[.slice u.sa i u.sc, .slice (some ⟨fb, fo, none⟩) NF u.fc, .int .i64 u.mn] 49 (0, 0))) := by
        obtain ⟨v, us, hT⟩ := hst.out.1
        exact Lib.hid ⟨⟨v, us, hT.kbF kt⟩, kt.heap (fun x => x) hst.out.2⟩
       unfold tyV at MT
       have H4 := Lib.hid h4
       have HBT := Lib.hid bt
       clear hla hty hta e2 ht kr hst h4 kt bt
       go_upto_region 15 with fail
       rw [← H4.out]
       clear t0 t1 t2 t3 t4
       obtain ⟨t0, t1, t2, t3, t4⟩ := TyCells.of_block HBT.out
       simp only [Nat.zero_add] at t0 t1 t2 t3 t4
       go_wp2_with fail
       refine MT.out.mono ?_
       rintro e w5 ⟨rfl, h5, h6⟩
       have HN2 : Hid (TabInv w0 S.length u.sa u.sc X mb (loL S (g.locals.take (j + 1)) (fnL S Fs q)) w5 ∧ w5.heap[w0.heap.size]? = some (.cells #[.slice u.sa i u.sc, .slice (some ⟨fb, fo, none⟩) NF u.fc, .int .i64 u.mn] 49 (0, 0))) := by
        obtain ⟨v, us, hT⟩ := HT4.out.1
        exact Lib.hid ⟨by rw [HTK.out, loL_snoc]; exact h5, h6.kb.heap (tabP_not hT HT4.out.2 (by decide) (by decide)) HT4.out.2⟩
       clear h5 h6 MT t0 t1 t2 t3 t4
       go_wp2_with fail
       exact ⟨⟨j + 1, by omega, by go_num, HN2⟩, by simp [intOf]; omega⟩
      ·obtain rfl : j = NL := by omega
       have dj : decide ((j : Int) < (j : Int)) = false := decide_eq_false (by omega)
       have HN2 : Hid (TabInv w0 S.length u.sa u.sc X mb (fnL S Fs (q + 1)) wr ∧ wr.heap[w0.heap.size]? = some (.cells #[.slice u.sa i u.sc, .slice (some ⟨fb, fo, none⟩) NF u.fc, .int .i64 u.mn] 49 (0, 0))) := Lib.hid ⟨by have h := hst.out.1; rw [HNX.out.2.2, List.take_length] at h; rw [HNX.out.1]; exact h, hst.out.2⟩
       clear hst
       go_wp2_with fail
       exact ⟨⟨q + 1, by omega, by go_num, HN2⟩, by simp [intOf]; omega⟩
    ·obtain rfl : q = NF := by omega
     have dq : decide ((q : Int) < (q : Int)) = false := decide_eq_false (by omega)
     obtain ⟨v, us, hT⟩ := hst.out.1
     rw [HN.out.1] at hT
     obtain ⟨la, lc, hv, hlc, -⟩ := own_shape hT.list.row
     obtain ⟨LN, hLN⟩ : ∃ n, n = (fnL S Fs Fs.length).length := ⟨_, rfl⟩
     have hLb : LN ≤ 4097 := by rw [hLN]; exact fnL_max S Fs _ (Nat.le_refl _)
     have x2 : wr.cell? ⟨X, 2, none⟩ = some (.slice la LN lc) := by rw [hLN, ← hv]; exact blk_cell hT.cell 2
     have HT := Lib.hid hT
     have HLN := Lib.hid hLN
     clear hst hv hlc hT hLN
     by_cases h40 : 4096 < LN
     ·have d1 : decide ((4096 : Int) < (LN : Int)) = true := decide_eq_true (by omega)
      have d2 : decide (4096 < LN) = true := decide_eq_true h40
      have HR : Hid (4096 < (ofL S Fs).length) := Lib.hid (by have := HLN.out; unfold ofL; omega)
      as_aux_lemma =>
      go_wp2_with fail
      go_ret2
      exact ⟨HT.out.kb, Or.inr (Or.inl ⟨HUP.out, HR.out, rfl⟩)⟩
     ·have d1 : decide ((4096 : Int) < (LN : Int)) = false := decide_eq_false (by omega)
      have d2 : decide (4096 < LN) = false := decide_eq_false h40
      have HR : Hid ((ofL S Fs).length ≤ 4096) := Lib.hid (by have := HLN.out; unfold ofL; omega)
      as_aux_lemma =>
      go_wp2_with fail
      go_ret2
      exact ⟨HT.out.kb, Or.inr (Or.inr ⟨HUP.out, HR.out, X, mb, rfl, _, _, HT.out⟩)⟩
end Go.Proofs.YtaeppaaolkcbbaaGreatDoor

/- layout.Shapes. A drawn region within which one element of two cells is appended to a slice of the call's own (the element's block may be the old one). -/
import Derived.Test.YtaeppaaolkcbbaaGreatDoorMg42
import Derived.Deep.Onto
import Derived.Deep.LoopGhost
import Derived.Test.YtaeppaaolkcbbaaGreatDoorMg02
namespace Go.Proofs.YtaeppaaolkcbbaaGreatDoor
open Go.RowKit

theorem Tryz.infoShp : (Tryz.prog.info? 32).map (fun i => (i.zero, i.size, i.bytes)) = some (some (.agg #[.int .i64 0, .slice none 0 0]), 2, 32) := by kernel_rfl
theorem Tryz.underlying27' : Tryz.prog.underlying 27 = some (.slice 32) := by kernel_rfl
structure OwnSh (B : Nat) (w : World) (v : Value) (l : List (Int × List (Int × Int × Int))) (us : List Value) : Prop where
 row : w.ownsRow B 32 2 v l.length us
 bxs : ∀ k (h : k < l.length), ∃ bv, us[k * 2]? = some (.int .i64 l[k].1) ∧ us[k * 2 + 1]? = some bv ∧ w.ownsRow B 61 3 bv l[k].2.length (bxCs l[k].2)
theorem ownSh_nil (B : Nat) (w : World) : OwnSh B w (.slice none 0 0) [] [] := ⟨World.ownsRow_nil _ _ _ _, fun k hk => by simp at hk⟩
theorem OwnSh.kb {B : Nat} {w w' : World} {v : Value} {l : List (Int × List (Int × Int × Int))} {us : List Value} (h : OwnSh B w v l us) {S : Nat → Prop} (hk : KB S w w') (h1 : ∀ g, v.ownBlock = some g → ¬ S g) (h2 : ∀ g cs, w.heap[g]? = some (.cells cs 61 (0, 0)) → ¬ S g) : OwnSh B w' v l us :=
 ⟨own_kb h.row hk h1, fun k hk' => by
  obtain ⟨bv, e1, e2, e3⟩ := h.bxs k hk'
  exact ⟨bv, e1, e2, own_kb e3 hk (fun g hg => by obtain ⟨c, h3, -⟩ := own_block e3 hg; exact h2 g c h3)⟩⟩
theorem OwnSh.kbF {B : Nat} {w w' : World} {v : Value} {l : List (Int × List (Int × Int × Int))} {us : List Value} (h : OwnSh B w v l us) (hk : KB F0 w w') : OwnSh B w' v l us := h.kb hk (fun _ _ x => x) (fun _ _ _ x => x)
theorem OwnSh.base {B B' : Nat} {w : World} {v : Value} {l : List (Int × List (Int × Int × Int))} {us : List Value} (h : OwnSh B w v l us) (hB : B' ≤ B) : OwnSh B' w v l us :=
 ⟨h.row.mono hB, fun k hk' => by
  obtain ⟨bv, e1, e2, e3⟩ := h.bxs k hk'
  exact ⟨bv, e1, e2, e3.mono hB⟩⟩
theorem OwnSh.push {B : Nat} {w w' : World} {v v' : Value} {l : List (Int × List (Int × Int × Int))} {us : List Value} {x : Int × List (Int × Int × Int)} {bv : Value} (h : OwnSh B w v l us) (hk : KB (fun k => v.ownBlock = some k) w w') (hb : w.ownsRow B 61 3 bv x.2.length (bxCs x.2)) (h' : w'.ownsRow B 32 2 v' (l.length + 1) (us ++ [.int .i64 x.1, bv])) : OwnSh B w' v' (l ++ [x]) (us ++ [.int .i64 x.1, bv]) := by
 have hul : us.length = l.length * 2 := h.row.1
 have hne : ∀ {g : Nat} {cs : Array Value}, w.heap[g]? = some (.cells cs 61 (0, 0)) → ¬ v.ownBlock = some g := fun hg e => by
  obtain ⟨c, h3, -⟩ := own_block h.row e
  rw [h3] at hg
  simp only [Option.some.injEq, Obj.cells.injEq] at hg
  exact absurd hg.2.1 (by decide)
 have hkeep : ∀ {u : Value} {n : Nat} {ys : List Value}, w.ownsRow B 61 3 u n ys → w'.ownsRow B 61 3 u n ys := fun hu => own_kb hu hk (fun g hg => by obtain ⟨c, h3, -⟩ := own_block hu hg; exact hne h3)
 refine ⟨by rw [List.length_append]; exact h', fun k hk' => ?_⟩
 rw [List.length_append, List.length_singleton] at hk'
 by_cases hlt : k < l.length
 ·rw [List.getElem_append_left hlt]
  obtain ⟨u, e1, e2, e3⟩ := h.bxs k hlt
  exact ⟨u, by rw [List.getElem?_append_left (by omega)]; exact e1, by rw [List.getElem?_append_left (by omega)]; exact e2, hkeep e3⟩
 ·obtain rfl : k = l.length := by omega
  rw [List.getElem_append_right (by omega)]
  simp only [Nat.sub_self, List.getElem_singleton]
  exact ⟨bv, by rw [List.getElem?_append_right (by omega), hul, Nat.sub_self]; rfl, by rw [List.getElem?_append_right (by omega), hul, Nat.add_sub_cancel_left]; rfl, hkeep hb⟩
theorem list_app2 {ops : Array Oper} {rest : List Oper} {o : Oper} {a : Act} {Q : Exit → Act → World → Prop} {w : World} (hgd : o.guard = none) (s x : Operand)
  (ho : o.op = .call { callee := .builtin .append, args := #[s, x], argTypes := #[27, 27] }) (base : Nat) (v : Value) (n : Nat) (us : List Value) (hs : a.eval s = v) (hown : w.ownsRow base 32 2 v n us)
  (nb c : Nat) (cs : List Value) (hx : a.eval x = .slice (some ⟨nb, 0, none⟩) 1 c) (hl : cs.length = 2) (hb : w.heap[nb]? = some (.cells cs.toArray 32 (0, 0))) (h1 : ∀ u ∈ cs, u.oneCell' = true) (hn : n ≤ 1000000) (hbase : base ≤ w.heap.size)
  (h : ∀ g cap w', w'.ownsRow base 32 2 (.slice (some ⟨g, 0, none⟩) (n + 1) cap) (n + 1) (us ++ cs) → KB (fun k => v.ownBlock = some k) w w' → (v.ownBlock = some g ∨ g = w.heap.size) → wpList Tryz.prog ops Q rest (a.put o.dst (.slice (some ⟨g, 0, none⟩) (n + 1) cap)) w') : wpList Tryz.prog ops Q (o :: rest) a w := by
 obtain ⟨i, hi, hz0, hz1, hz2⟩ := info_parts Tryz.infoShp
 exact wpList_append_lies w hgd s x 27 ho base 32 i _ 2 32 Tryz.underlying27' hi hz0 hz1 hz2 (by decide) (by decide) v n us hs hown ⟨nb, 0, none⟩ 1 c cs hx (by rw [hl]) (cells_of_block hb) h1 (by decide) (by unfold maxLen; omega) (by omega) hbase _ rfl
  (fun g cap w' h1 h2 h3 _ => h g cap w' h1 (KB.ofGrownBy h2) h3)
theorem OwnTl.at {w00 w : World} {v : Value} {l : List Ty} {us : List Value} (h : OwnTl w00 w v l us) {i : Nat} (hi : i < l.length) : ∃ g c ta tc, v = .slice (some ⟨g, 0, none⟩) l.length c ∧ TyCells w g (0 + i * 5) l[i] ta tc ∧ TyAt 49 w00 l[i] ta tc := by
 rcases h.row.2 with ⟨h1, h2⟩ | ⟨g, cap, cur, h1, h2, h3, h4, h5, h6, h7⟩
 ·omega
 ·obtain ⟨ta, tc, k1, k2⟩ := h.tys i hi
  have hc : ∀ j, j < 5 → w.cell? ⟨g, 0 + i * 5 + j, none⟩ = (tyCs l[i] ta tc)[j]? := fun j hj => by
   rw [blk_cell h3, ← k1 j hj, ← h7, List.getElem?_take, if_pos (by omega), Nat.zero_add]
   simp
  exact ⟨g, cap, ta, tc, h1, ⟨hc 0 (by omega), hc 1 (by omega), hc 2 (by omega), hc 3 (by omega), hc 4 (by omega)⟩, k2⟩
def NewV (v : Value) : Prop := ∃ n, v = .pointer (some ⟨n, 0, none⟩)
def NewAt (B : Nat) (cs : Array Value) (t : TypeId) (v : Value) (w : World) : Prop := ∃ n, v = .pointer (some ⟨n, 0, none⟩) ∧ B ≤ n ∧ w.heap[n]? = some (.cells cs t (0, 0))
theorem lasts_new (B : Nat) (cs : Array Value) (t : TypeId) : Lasts (NewAt B cs t) := fun _ _ _ hG ⟨n, h1, h2, h3⟩ => ⟨n, h1, h2, hG.heap (fun x => x) h3⟩
theorem opVal_newS {P : Program} {o : Oper} {a : Act} {w w0 : World} {cs : Array Value} {t : TypeId} (hG : GK w0 w)
  (hr : (execOp a.eval o).run P w = .ok (.value (.pointer (some ⟨w.heap.size, 0, none⟩))) (w.alloc (.cells cs t))) :
  OpVal P o a w (fun v w' => NewV v ∧ GK w w' ∧ NewAt w0.heap.size cs t v w') :=
 opVal_value hr ⟨⟨_, rfl⟩, (KB.refl _ w).alloc _, ⟨_, rfl, hG.size, alloc_new w _⟩⟩
def SsEnd (S : List (List Ty)) (Fs : List Gr) (u : AskA) (w : World) (e : Ending) (w' : World) : Prop :=
 KB F0 w w' ∧ ((¬ UnitP S Fs u.mn ∧ e = .returned (.tuple #[.slice none 0 0, .int .i64 2])) ∨ (UnitP S Fs u.mn ∧ 4096 < (ofL S Fs).length ∧ e = .returned (.tuple #[.slice none 0 0, .int .i64 230])) ∨
  (UnitP S Fs u.mn ∧ (ofL S Fs).length ≤ 4096 ∧ ∃ v us, e = .returned (.tuple #[v, .int .i64 0]) ∧ OwnSh w.heap.size w' v ((ofL S Fs).map (shF S (ofL S Fs))) us))
set_option maxRecDepth 100000 in
set_option maxHeartbeats 64000000 in
theorem lyShapes_any (S : List (List Ty)) (Fs : List Gr) (u : AskA) (w : World) (hU : UnAt S Fs u w) :
  Calls Tryz.prog 21 #[.agg (unC S Fs u)] w (SsEnd S Fs u w) := by
 obtain ⟨w0, rfl⟩ : ∃ w0, w0 = w := ⟨_, rfl⟩
 obtain ⟨NF, hNF⟩ : ∃ n, n = Fs.length := ⟨_, rfl⟩
 obtain ⟨NS, hNS⟩ : ∃ n, n = S.length := ⟨_, rfl⟩
 have HN := Lib.hid (And.intro hNF hNS)
 obtain ⟨W, hW⟩ : ∃ W, W = w0.alloc (.cells #[.slice u.sa NS u.sc, .slice u.fa NF u.fc, .int .i64 u.mn] 49) := ⟨_, rfl⟩
 have kW : KB F0 w0 W := by rw [hW]; exact (KB.refl _ _).alloc _
 have bW : W.heap[w0.heap.size]? = some (.cells #[.slice u.sa NS u.sc, .slice u.fa NF u.fc, .int .i64 u.mn] 49 (0, 0)) := by rw [hW]; exact alloc_new _ _
 have u0 : W.cell? ⟨w0.heap.size, 0, none⟩ = some (.slice u.sa NS u.sc) := blk_cell bW 0
 have u1 : W.cell? ⟨w0.heap.size, 1, none⟩ = some (.slice u.fa NF u.fc) := blk_cell bW 1
 have u2 : W.cell? ⟨w0.heap.size, 2, none⟩ = some (.int .i64 u.mn) := blk_cell bW 2
 have OF := Lib.hid (lyof_any S Fs u W (hU.kbF kW))
 unfold unC at OF ⊢
 rw [← hNF, ← hNS] at OF ⊢
 have HW := Lib.hid hW
 have HU := Lib.hid hU
 have HB := Lib.hid kW
 clear hW kW bW hU hNF hNS
 go_enter Tryz.func21, Tryz.ntmps21
 go_upto_region 1 with fail
 rw [← HW.out]
 go_wp2_with fail
 refine OF.out.mono ?_
 rintro e w1 ⟨k1, hE⟩
 have K1 := Lib.hid (HB.out.trans k1)
 clear u0 u1 u2 k1 OF
 rcases hE with ⟨hno, rfl⟩ | ⟨hup, h40, rfl⟩ | ⟨hup, h40, X, mb, rfl, hT⟩
 ·have HNO := Lib.hid hno
  clear hno
  as_aux_lemma =>
  go_wp2_with fail
  go_ret2
  exact ⟨K1.out.alloc _, Or.inl ⟨HNO.out, rfl⟩⟩
 ·have HR := Lib.hid (And.intro hup h40)
  clear hup h40
  as_aux_lemma =>
  go_wp2_with fail
  go_ret2
  exact ⟨K1.out.alloc _, Or.inr (Or.inl ⟨HR.out.1, HR.out.2, rfl⟩)⟩
 have HUP := Lib.hid (And.intro hup h40)
 have HT1 := Lib.hid hT
 clear hup h40 hT
 go_upto_region 4 with fail
 obtain ⟨w2, h2⟩ : ∃ w2, w2 = w1.alloc (.cells #[.pointer (some ⟨X, 0, none⟩)] 104) := ⟨_, rfl⟩
 rw [← h2]
 have k2 : KB F0 w1 w2 := by rw [h2]; exact (KB.refl _ _).alloc _
 have b2 : w2.heap[w1.heap.size]? = some (.cells #[.pointer (some ⟨X, 0, none⟩)] 104 (0, 0)) := by rw [h2]; exact alloc_new _ _
 obtain ⟨B4, hB4⟩ : ∃ n, n = w1.heap.size := ⟨_, rfl⟩
 rw [← hB4] at b2 ⊢
 obtain ⟨L, hL⟩ : ∃ L, L = ofL S Fs := ⟨_, rfl⟩
 obtain ⟨tv, tus, hT⟩ := HT1.out
 rw [← hL] at hT
 have T2 := Lib.hid (hT.kbF k2)
 have HS := Lib.hid (HU.out.hS.kbF HB.out)
 obtain ⟨LN, hLN⟩ : ∃ n, n = L.length := ⟨_, rfl⟩
 have hLb : LN ≤ 4096 := by rw [hLN, hL]; exact HUP.out.2
 have HL := Lib.hid (And.intro hL (And.intro hLN (show ∀ u ∈ L, lookB S.length 48 u = true by rw [hL]; exact ofL_look HUP.out.1)))
 obtain ⟨la, lc, hv, hlc, -⟩ := own_shape hT.list.row
 have HV := Lib.hid hv
 have x2 : w2.cell? ⟨X, 2, none⟩ = some (.slice la LN lc) := by rw [hLN, ← hv]; exact blk_cell T2.out.cell 2
 have p0 : w2.cell? ⟨B4, 0, none⟩ = some (.pointer (some ⟨X, 0, none⟩)) := blk_cell b2 0
 have HB4 := Lib.hid b2
 have K2 := Lib.hid (K1.out.trans k2)
 clear h2 k2 b2 hB4 hL hLN hT hv hlc
 go_upto_region 6 with fail
 clear x2 p0
 go_loopg [23, 6] LN (fun gg kv ov wr => ∃ (i : Nat) (oa : Option Addr) (oc : Nat), i ≤ LN ∧ gg = LN - i ∧ kv = .int .i64 (i : Nat) ∧ ov = .slice oa i oc ∧ Hid ((∃ us, OwnSh W.heap.size wr (.slice oa i oc) ((L.take i).map (shF S L)) us) ∧ TabAt W S.length u.sa u.sc X mb tv tus L wr ∧ wr.heap[B4]? = some (.cells #[.pointer (some ⟨X, 0, none⟩)] 104 (0, 0))))
 case atStart => exact ⟨0, none, 0, by omega, by omega, rfl, rfl, Lib.hid ⟨⟨[], ownSh_nil _ _⟩, T2.out, HB4.out⟩⟩
 case round =>
  obtain ⟨i, oa, oc, hi, rfl, rfl, rfl, hst⟩ := hrel
  by_cases hlt : i < LN
  ·as_aux_lemma =>
   have hiI : (i : Int) < (LN : Int) := by omega
   have di : decide ((i : Int) < (LN : Int)) = true := decide_eq_true hiI
   have hiL : i < L.length := by rw [← HL.out.2.1]; exact hlt
   obtain ⟨lg, lcc, ta, tc, hlv, hty, hta⟩ := hst.out.2.1.list.at hiL
   obtain ⟨t, ht⟩ : ∃ t, t = L[i] := ⟨_, rfl⟩
   rw [← ht] at hty hta
   rw [hlv] at HV
   have hla : la = some ⟨lg, 0, none⟩ := by have h := HV.out; simp only [Value.slice.injEq] at h; exact h.1.symm
   subst hla
   obtain ⟨t0, t1, t2, t3, t4⟩ := hty
   simp only [Nat.zero_add] at t0 t1 t2 t3 t4
   have HTL := Lib.hid (And.intro ht hta)
   have hlk : lookB S.length 48 t = true := by rw [ht]; exact HL.out.2.2 _ (List.getElem_mem hiL)
   have HLK := Lib.hid hlk
   obtain ⟨w4, h4⟩ : ∃ w4, w4 = wr.alloc (.cells #[.int .u8 t.k, .bool t.m, .int .i64 t.r, .int .i64 t.s, .slice ta t.of.length tc] 26) := ⟨_, rfl⟩
   obtain ⟨kt, bt⟩ := boxTy wr t ta tc
   rw [← h4] at kt bt
   have hs4 : w4.heap.size = wr.heap.size + 1 := by rw [h4]; simp
   have H4 := Lib.hid h4
   have HI4 := Lib.hid (And.intro hst.out (And.intro kt (And.intro bt hs4)))
   clear ht hta hlk h4 hlv kt bt hs4
   go_upto_region 8 with fail
   rw [← H4.out]
   clear t0 t1 t2 t3 t4 hst
   have p0 : w4.cell? ⟨B4, 0, none⟩ = some (.pointer (some ⟨X, 0, none⟩)) := blk_cell (HI4.out.2.1.heap (fun x => x) HI4.out.1.2.2) 0
   have x0 : w4.cell? ⟨X, 0, none⟩ = some (.slice u.sa NS u.sc) := by rw [HN.out.2]; exact blk_cell (HI4.out.2.1.heap (fun x => x) HI4.out.1.2.1.cell) 0
   obtain ⟨t0, t1, t2, t3, t4⟩ := TyCells.of_block HI4.out.2.2.1
   simp only [Nat.zero_add] at t0 t1 t2 t3 t4
   have WD := Lib.hid (fun (V : World) (hV : KB F0 w4 V) => lywords_any S HUP.out.1.good.inR HUP.out.1.good.len (fun i => Nat.le_trans (HUP.out.1.good.len8 i) (by omega)) (fun n t hf hi => HUP.out.1.good.w16 n t hf hi) 49 u.sa u.sc 34 t ta tc V (HUP.out.1.good.fin t) (look_inT HLK.out) (HS.out.kbF (HI4.out.1.2.1.kb.trans (HI4.out.2.1.trans hV))))
   obtain ⟨wf, hwf⟩ : ∃ x, x = wF S 34 t := ⟨_, rfl⟩
   have HWF := Lib.hid hwf
   rw [← hwf, ← HN.out.2] at WD
   unfold tyV at WD
   clear hwf
   refine wp_region_rv 8 GK (kindW [(5, (fun v => v = .int .i64 (wf : Nat)), (fun _ _ => True)), (7, NewV, NewAt w4.heap.size #[.int .i64 0, .slice none 0 0] 32)]) (by kernel_rfl) (by kernel_rfl) (kb_trans _) (kb_refl _) (kb_start _ _) (kindW_mono _ (by intro p hp; simp only [List.mem_cons, List.not_mem_nil, or_false] at hp; rcases hp with rfl | rfl; exact lasts_true; exact lasts_new _ _ _)) ?_
   simp only [pT, pU, pV, pW]
   refine rv_det (by kernel_rfl) rfl (by intro w hG hH; have hc0 := kc hG (p0); go_simp; first | done | with_reducible rfl) ?_
   simp only [Act.put, pA, pZ, pS]
   iterate 2 (refine rv_det (by kernel_rfl) rfl (by intro w hG hH; go_simp; first | done | with_reducible rfl) ?_; simp only [Act.put, pA, pZ, pS])
   refine rv_det (by kernel_rfl) rfl (by intro w hG hH; have hc0 := kc hG (x0); go_simp; first | done | with_reducible rfl) ?_
   simp only [Act.put, pA, pZ, pS]
   refine rv_det (by kernel_rfl) rfl (by intro w hG hH; have hc0 := kc hG (t0); have hc1 := kc hG (t1); have hc2 := kc hG (t2); have hc3 := kc hG (t3); have hc4 := kc hG (t4); go_simp; first | done | with_reducible rfl) ?_
   simp only [Act.put, pA, pZ, pS]
   refine rv_rel (by kernel_rfl) rfl ⟨_, rfl⟩ (by
    intro w hG hH
    refine opVal_call (by go_simp; first | done | exact ⟨⟨rfl, rfl⟩, rfl⟩) ?_
    refine (WD.out _ hG).mono ?_
    rintro e w' ⟨rfl, hq⟩
    exact ⟨_, rfl, rfl, by first | (obtain ⟨nq, rfl⟩ := hq; exact (KB.refl _ _).drewN _) | (subst hq; exact KB.refl _ _) | exact hq, trivial⟩) ?_
   rintro v rfl
   simp only [Act.put, pA, pZ, pS]
   refine rv_det (by kernel_rfl) rfl (by intro w hG hH; go_simp; first | done | with_reducible rfl) ?_
   simp only [Act.put, pA, pZ, pS]
   refine rv_rel (by kernel_rfl) rfl ⟨.pointer (some ⟨0, 0, none⟩), 0, rfl⟩ (fun w hG hH => opVal_newS hG (by go_simp; first | done | rfl)) ?_
   rintro v ⟨Bs, rfl⟩
   simp only [Act.put, pA, pZ, pS]
   refine rv_nil (fun w hG hH => ?_)
   obtain ⟨Bs', e1, e2, e3⟩ := hH _ (List.mem_cons_self ..)
   cases e1
   obtain ⟨w5, rfl⟩ : ∃ x, x = w := ⟨_, rfl⟩
   have y0 : w5.cell? ⟨Bs, 0, none⟩ = some (.int .i64 0) := blk_cell e3 0
   have y1 : w5.cell? ⟨Bs, 1, none⟩ = some (.slice none 0 0) := blk_cell e3 1
   have f0 := blk_frozen e3 0
   have f1 := blk_frozen e3 1
   have H5 := Lib.hid (And.intro hG (And.intro e2 e3))
   clear hG hH e2 e3 p0 x0 t0 t1 t2 t3 t4 WD
   go_upto_region 9 with fail
   obtain ⟨W6, hW6⟩ : ∃ W6, W6 = (w5.setCell ⟨Bs, 0, none⟩ (.int .i64 (wf : Nat))).setCell ⟨Bs, 1, none⟩ (.slice none 0 0) := ⟨_, rfl⟩
   rw [← hW6]
   have H6 : Hid (KB F0 w4 W6 ∧ W6.heap[Bs]? = some (.cells #[.int .i64 (wf : Nat), .slice none 0 0] 32 (0, 0)) ∧ w4.heap.size ≤ Bs) := by
    obtain ⟨g1, g2, g3⟩ := H5.out
    rw [hW6]
    exact Lib.hid ⟨kb_new (kb_new g1 g2 0 _) g2 1 _, setCell_blk (i := 1) (setCell_blk (i := 0) g3 _) _, g2⟩
   have hsx : SxAt W S.length u.sa u.sc X mb L B4 Bs (wf : Nat) (.slice none 0 0) [] W6 := by
    have k46 := HI4.out.2.1.trans H6.out.1
    have hTT := HI4.out.1.2.1.kbF k46
    have h1 := HI4.out.1.2.1.kb.size
    have h2 := HI4.out.2.1.size
    have h3 := H6.out.2.2
    exact ⟨hTT.kb, by omega, H6.out.2.1, World.ownsRow_nil _ _ _ _, k46.heap (fun x => x) HI4.out.1.2.2, ⟨_, _, hTT⟩⟩
   have HSX := Lib.hid hsx
   have BX := Lib.hid (fun (V : World) (hV : KB F0 W6 V) => lyboxes_any HUP.out.1.good u.sa u.sc W HS.out 47 #[.pointer (some ⟨B4, 0, none⟩), .pointer (some ⟨Bs, 0, none⟩)] (SxP Bs) (SxInv W S u.sa u.sc X mb L B4 Bs (wf : Nat)) (lyEn (fn := Tryz.f47) Tryz.func47 (by decide) (fun e => by cases e)) (sx_met W S u.sa u.sc X mb L B4 Bs (wf : Nat))
    (sx_step W S HUP.out.1.good u.sa u.sc HS.out X mb L B4 Bs (wf : Nat)) 34 t ta tc 0 [] V (HUP.out.1.good.fin t) HLK.out (by have := HUP.out.1.good.w16 34 t (HUP.out.1.good.fin t) (look_inT HLK.out); omega) (by have := HUP.out.1.good.w16 34 t (HUP.out.1.good.fin t) (look_inT HLK.out); simp; omega) HTL.out.2 ⟨_, HSX.out.kbF hV⟩)
   rw [List.nil_append, ← HN.out.2] at BX
   unfold tyV at BX
   have p0 : W6.cell? ⟨B4, 0, none⟩ = some (.pointer (some ⟨X, 0, none⟩)) := blk_cell hsx.ptr 0
   have x0 : W6.cell? ⟨X, 0, none⟩ = some (.slice u.sa NS u.sc) := by rw [HN.out.2]; exact blk_cell (HI4.out.1.2.1.kbF (HI4.out.2.1.trans H6.out.1)).cell 0
   obtain ⟨t0, t1, t2, t3, t4⟩ := TyCells.of_block (H6.out.1.heap (fun x => x) HI4.out.2.2.1)
   simp only [Nat.zero_add] at t0 t1 t2 t3 t4
   clear hW6 hsx y0 y1 f0 f1
   refine wp_region_rv 6 GK (kindW []) (by kernel_rfl) (by kernel_rfl) (kb_trans _) (kb_refl _) (kb_start _ _) (kindW_mono _ (by intro p hp; cases hp)) ?_
   simp only [pT, pU, pV, pW]
   refine rv_det (by kernel_rfl) rfl (by intro w hG hH; have hc0 := kc hG (p0); go_simp; first | done | with_reducible rfl) ?_
   simp only [Act.put, pA, pZ, pS]
   iterate 2 (refine rv_det (by kernel_rfl) rfl (by intro w hG hH; go_simp; first | done | with_reducible rfl) ?_; simp only [Act.put, pA, pZ, pS])
   refine rv_det (by kernel_rfl) rfl (by intro w hG hH; have hc0 := kc hG (x0); go_simp; first | done | with_reducible rfl) ?_
   simp only [Act.put, pA, pZ, pS]
   refine rv_det (by kernel_rfl) rfl (by intro w hG hH; have hc0 := kc hG (t0); have hc1 := kc hG (t1); have hc2 := kc hG (t2); have hc3 := kc hG (t3); have hc4 := kc hG (t4); go_simp; first | done | with_reducible rfl) ?_
   simp only [Act.put, pA, pZ, pS]
   refine rv_det (by kernel_rfl) rfl (by intro w hG hH; go_simp; first | done | with_reducible rfl) ?_
   simp only [Act.put, pA, pZ, pS]
   refine rv_nil (fun w hG hH => ?_)
   obtain ⟨w7, rfl⟩ : ∃ x, x = w := ⟨_, rfl⟩
   have H7 := Lib.hid hG
   clear hG hH p0 x0 t0 t1 t2 t3 t4
   go_wp2_with fail
   refine (BX.out _ H7.out).mono ?_
   rintro e w8 ⟨rfl, ⟨bv, hbv⟩, hst⟩
   have H8 : Hid (KB (fun k => k = Bs) wr w8 ∧ SxAt W S.length u.sa u.sc X mb L B4 Bs (wf : Nat) bv ((bxF S 34 t 0).map (bxAt S L)) w8 ∧ wr.heap.size < Bs) := by
    have k47 := HI4.out.2.1.trans (H6.out.1.trans H7.out)
    refine Lib.hid ⟨(k47.mono (fun _ _ x => x.elim)).trans (hst.kb.mono (fun k _ e => ?_)), hbv, by have h2 := HI4.out.2.2.2; have h3 := H6.out.2.2; omega⟩
    rcases e with rfl | ⟨c0, u', e1, e2⟩
    ·rfl
    ·rw [(HSX.out.kbF H7.out).cell] at e1
     simp only [Option.some.injEq, Obj.cells.injEq, Array.mk.injEq, List.cons.injEq, and_true] at e1
     obtain ⟨rfl, rfl⟩ := e1
     cases e2
   have z0 : w8.cell? ⟨Bs, 0, none⟩ = some (.int .i64 (wf : Nat)) := blk_cell hbv.cell 0
   have z1 : w8.cell? ⟨Bs, 1, none⟩ = some bv := blk_cell hbv.cell 1
   obtain ⟨qa, qc, hq, -⟩ := own_shape hbv.own
   obtain ⟨qn, hqn⟩ : ∃ n, n = ((bxF S 34 t 0).map (bxAt S L)).length := ⟨_, rfl⟩
   rw [← hqn] at hq
   rw [hq] at z1
   have HQ := Lib.hid hq
   clear hbv hst BX hq hqn
   go_wp2_with (at_builtin; refine Stopped.out ?_)
   refine ⟨?_⟩
   obtain ⟨us, hos⟩ := HI4.out.1.1
   have hlen : ((L.take i).map (shF S L)).length = i := by rw [List.length_map, List.length_take]; omega
   obtain ⟨W9, hW9⟩ : ∃ W9, W9 = w8.alloc (.cells #[.int .i64 (wf : Nat), .slice qa qn qc] 32) := ⟨_, rfl⟩
   rw [← hW9]
   have k9 : KB F0 w8 W9 := by rw [hW9]; exact (KB.refl _ _).alloc _
   have b9 : W9.heap[w8.heap.size]? = some (.cells #[.int .i64 (wf : Nat), .slice qa qn qc] 32 (0, 0)) := by rw [hW9]; exact alloc_new _ _
   have hos9 : OwnSh W.heap.size W9 (.slice oa i oc) ((L.take i).map (shF S L)) us := by
    refine (hos.kb H8.out.1 (fun g hg e => ?_) (fun g cs hc e => ?_)).kbF k9
    ·have := (hos.row.lt g hg).2
     have := H8.out.2.2
     omega
    ·have := heap_lt hc
     have := H8.out.2.2
     omega
   have hrow := hos9.row
   rw [hlen] at hrow
   refine list_app2 rfl (.tmp 41) (.tmp 43) rfl W.heap.size (.slice oa i oc) i us rfl hrow w8.heap.size 1 [.int .i64 (wf : Nat), .slice qa qn qc] rfl rfl b9 (by intro u hu; simp only [List.mem_cons, List.not_mem_nil, or_false] at hu; rcases hu with rfl | rfl <;> rfl) (by omega) (by have h1 := HI4.out.1.2.1.kb.size; have h2 := H8.out.1.size; have h3 := k9.size; omega) ?_
   intro g cap w10 r10 k10 a10
   have HNX : Hid ((∃ us, OwnSh W.heap.size w10 (.slice (some ⟨g, 0, none⟩) (i + 1) cap) ((L.take (i + 1)).map (shF S L)) us) ∧ TabAt W S.length u.sa u.sc X mb tv tus L w10 ∧ w10.heap[B4]? = some (.cells #[.pointer (some ⟨X, 0, none⟩)] 104 (0, 0))) := by
    have hiL : i < L.length := by rw [← HL.out.2.1]; exact hlt
    have hsh : shF S L t = (((wf : Nat) : Int), (bxF S 34 t 0).map (bxAt S L)) := by unfold shF; rw [HWF.out]
    have hp := hos9.push (x := shF S L t) (bv := .slice qa qn qc) (v' := .slice (some ⟨g, 0, none⟩) (i + 1) cap) k10 (by
     rw [hsh]
     have h := own_kb H8.out.2.1.own k9 (fun _ _ x => x)
     rw [HQ.out] at h
     exact h) (by rw [hlen, hsh]; exact r10)
    have kall : KB (fun k => k = Bs ∨ (Value.slice oa i oc).ownBlock = some k) wr w10 := ((H8.out.1.mono (fun k _ e => Or.inl e)).trans (k9.mono (fun _ _ x => x.elim))).trans (k10.mono (fun k _ e => Or.inr e))
    have hT := HI4.out.1.2.1
    obtain ⟨D, ⟨es, clock, hm, -⟩, -⟩ := hT.map
    have hno : ∀ {k : Nat} {o : Obj}, wr.heap[k]? = some o → (∀ cs, o ≠ .cells cs 32 (0, 0)) → ¬ (k = Bs ∨ (Value.slice oa i oc).ownBlock = some k) := fun hk h1 h => by
     rcases h with rfl | h
     ·have := heap_lt hk
      have := H8.out.2.2
      omega
     ·obtain ⟨c, h3, -⟩ := own_block hos.row h
      rw [h3] at hk
      exact h1 _ (Option.some.inj hk).symm
    have hge : ∀ k, (k = Bs ∨ (Value.slice oa i oc).ownBlock = some k) → W.heap.size ≤ k := fun k hk => by
     rcases hk with rfl | hk
     ·have := H8.out.2.1.lo; omega
     ·exact (hos.row.lt k hk).1
    refine Lib.hid ⟨⟨us ++ [.int .i64 (shF S L t).1, .slice qa qn qc], ?_⟩, hT.kbS kall (fun k e => ⟨hge k e, fun e2 => ?_, fun e2 => ?_, fun e2 => ?_⟩), kall.heap (hno HI4.out.1.2.2 (fun cs e => by simp only [Obj.cells.injEq] at e; exact absurd e.2.1 (by decide))) HI4.out.1.2.2⟩
    ·rw [List.take_add_one, List.getElem?_eq_getElem hiL, ← HTL.out.1, Option.toList_some, List.map_append, List.map_singleton]
     exact hp
    ·subst e2
     exact hno hT.cell (fun cs e => by simp only [Obj.cells.injEq] at e; exact absurd e.2.1 (by decide)) e
    ·subst e2
     exact hno hm (fun cs e => by cases e) e
    ·obtain ⟨c, h3, -⟩ := own_block hT.list.row e2
     exact hno h3 (fun cs e => by simp only [Obj.cells.injEq] at e; exact absurd e.2.1 (by decide)) e
   clear r10 k10 a10 hos9 hrow b9 k9 hW9 hos hlen z0 z1
   go_wp2_with fail
   go_roundg (LN - (i + 1))
   case measure => omega
   case rel => exact ⟨i + 1, _, _, by omega, rfl, by go_num, rfl, HNX⟩
  ·obtain rfl : i = LN := by omega
   have di : decide ((i : Int) < (i : Int)) = false := decide_eq_false (by omega)
   have HR : Hid (SsEnd S Fs u w0 (.returned (.tuple #[.slice oa i oc, .int .i64 0])) wr) := by
    obtain ⟨⟨us, hos⟩, hT, -⟩ := hst.out
    rw [HL.out.2.1, List.take_length] at hos
    refine Lib.hid ⟨HB.out.trans hT.kb, Or.inr (Or.inr ⟨HUP.out.1, HUP.out.2, _, us, rfl, ?_⟩)⟩
    rw [← HL.out.1, HL.out.2.1]
    exact hos.base HB.out.size
   clear hst
   go_wp2_with fail
   go_ret2
   exact HR.out
end Go.Proofs.YtaeppaaolkcbbaaGreatDoor

namespace Go.Proofs.YtaeppaaolkcbbaaGreatDoor.A2
open Go.RowKit

def inPlace (v : Value) (n : Nat) : Value := match v with
 | .slice a _ c => .slice a n c
 | v => v
theorem inPlace_block (v : Value) (n : Nat) : (inPlace v n).ownBlock = v.ownBlock := by
 cases v with
 | slice a l c => cases a <;> rfl
 | _ => rfl
theorem own_at2 {w w' : World} {B : Nat} {e : TypeId} {size n : Nat} {v : Value} {xs : List Value} (h : w.ownsRow B e size v n xs) (hs : ∀ g, v.ownBlock = some g → w'.heap[g]? = w.heap[g]?) : w'.ownsRow B e size v n xs := by
 obtain ⟨h1, h2⟩ := h
 refine ⟨h1, ?_⟩
 rcases h2 with h2 | ⟨g, cap, cur, hv, hg, hh, r⟩
 ·exact Or.inl h2
 ·exact Or.inr ⟨g, cap, cur, hv, hg, by rw [hs g (by rw [hv]; rfl)]; exact hh, r⟩
theorem own_prefix {w : World} {B : Nat} {e : TypeId} {v : Value} {n m : Nat} {ys : List Value} (h : w.ownsRow B e 2 (inPlace v n) n ys) (hm : m ≤ n) (hv : ∃ g c, v = .slice (some ⟨g, 0, none⟩) m c) : w.ownsRow B e 2 v m (ys.take (m * 2)) := by
 obtain ⟨g, c, rfl⟩ := hv
 obtain ⟨h1, h2⟩ := h
 rcases h2 with ⟨h2, -⟩ | ⟨g', cap, cur, hv, hg, hh, hcap, hmx, hsz, hx⟩
 ·simp [inPlace] at h2
 ·simp only [inPlace, Value.slice.injEq, Option.some.injEq, Addr.mk.injEq, and_true, true_and] at hv
  obtain ⟨rfl, rfl⟩ := hv
  refine ⟨by rw [List.length_take, h1]; omega, Or.inr ⟨g, c, cur, rfl, hg, hh, by omega, hmx, hsz, ?_⟩⟩
  rw [← hx, List.take_take]
  congr 1; omega
def GA (B : Nat) (e : TypeId) (v : Value) (n : Nat) (ys : List Value) (a b : World) : Prop :=
 KB (fun k => v.ownBlock = some k) a b ∧ ∀ g, v.ownBlock = some g → b.heap[g]? = a.heap[g]? ∨ b.ownsRow B e 2 (inPlace v n) n ys
section
variable {B : Nat} {e : TypeId} {v : Value} {n : Nat} {ys : List Value}
theorem GA.refl (a : World) : GA B e v n ys a a := ⟨KB.refl _ _, fun _ _ => .inl rfl⟩
theorem GA.trans (a b c : World) (h : GA B e v n ys a b) (k : GA B e v n ys b c) : GA B e v n ys a c := by
 refine ⟨h.1.trans k.1, fun g hg => ?_⟩
 rcases k.2 g hg with h2 | h2
 ·rcases h.2 g hg with h1 | h1
  ·exact .inl (h2.trans h1)
  ·refine .inr (own_at2 h1 fun g' hg' => ?_)
   rw [inPlace_block, hg] at hg'
   obtain rfl := Option.some.inj hg'
   exact h2
 ·exact .inr h2
theorem GA.start (a : World) : GA B e v n ys a a.drew := ⟨(KB.refl _ _).drew, fun _ _ => .inl rfl⟩
theorem GA.kb {F0' : Nat → Prop} {a b : World} (hk : KB F0' a b) (hF : ∀ k, ¬ F0' k) (hlt : ∀ g, v.ownBlock = some g → g < a.heap.size) : GA B e v n ys a b :=
 ⟨hk.mono (fun k _ h => (hF k h).elim), fun g hg => .inl (hk.block g (hlt g hg) (hF g))⟩
theorem GA.old {a b : World} {m : Nat} (h : GA B e v n ys a b) (ho : a.ownsRow B e 2 v m (ys.take (m * 2))) (hm : m ≤ n) : b.ownsRow B e 2 v m (ys.take (m * 2)) := by
 obtain ⟨h1, h2⟩ := ho
 rcases h2 with ⟨rfl, h2⟩ | ⟨g, cap, cur, rfl, hb, hh, r⟩
 ·exact ⟨h1, Or.inl ⟨rfl, h2⟩⟩
 ·rcases h.2 g rfl with h3 | h3
  ·exact ⟨h1, Or.inr ⟨g, cap, cur, rfl, hb, by rw [h3]; exact hh, r⟩⟩
  ·exact own_prefix h3 hm ⟨g, cap, rfl⟩
def FA (B N0 : Nat) (e : TypeId) (v : Value) (n : Nat) (ys : List Value) (v' : Value) (w : World) : Prop :=
 w.ownsRow B e 2 v' n ys ∧ (v' = inPlace v n ∨ ∀ g, v'.ownBlock = some g → v.ownBlock ≠ some g ∧ N0 ≤ g)
theorem FA.lasts {N0 : Nat} {v' : Value} {a b : World} (h : GA B e v n ys a b) (f : FA B N0 e v n ys v' a) : FA B N0 e v n ys v' b := by
 obtain ⟨f1, f2⟩ := f
 refine ⟨?_, f2⟩
 rcases f2 with rfl | f2
 ·cases hv : v.ownBlock with
  | none => exact own_at2 f1 (fun g hg => by rw [inPlace_block, hv] at hg; cases hg)
  | some g =>
   rcases h.2 g hv with h1 | h1
   ·refine own_at2 f1 (fun g' hg' => ?_)
    rw [inPlace_block, hv] at hg'
    obtain rfl := Option.some.inj hg'
    exact h1
   ·exact h1
 ·exact own_kb f1 h.1 (fun g hg hS => (f2 g hg).1 hS)
end
theorem kindW_monoG {G : World → World → Prop} (l : List (Nat × (Value → Prop) × (Value → World → Prop))) (hl : ∀ p ∈ l, ∀ v a b, G a b → p.2.2 v a → p.2.2 v b) : ∀ i Fp Fw, kindW l i = .rel Fp Fw → ∀ xs v a b, G a b → Fw xs v a → Fw xs v b := by
 intro i Fp Fw h xs v a b hG hf
 unfold kindW at h
 split at h
 ·rename_i p hp
  cases h
  exact hl p (List.mem_of_find?_eq_some hp) v a b hG hf
 ·cases h
theorem run_append_two {P : Program} (w : World) (base N0 : Nat) (hN0 : N0 ≤ w.heap.size) (t ty e : TypeId) {z : Value} {bytes : Nat} (hinfo : (P.info? e).map (fun i => (i.zero, i.size, i.bytes)) = some (some z, 2, bytes)) (ht : P.underlying t = some (.slice e)) (hzs : z.cells.size = 2)
  (v : Value) (n : Nat) (xs : List Value) (hown : w.ownsRow base e 2 v n xs) (a : Addr) (c : Nat) (cs : List Value) (hcl : cs.length = 2) (hu : ∀ j x, cs[j]? = some x → w.cell? (a.add j) = some x) (h1 : ∀ x ∈ cs, x.oneCell' = true)
  (h63 : n + 1 ≤ maxLen) (hbytes : (n + 1) * bytes ≤ 140737488355328) (hbase : base ≤ w.heap.size) :
  ∃ v' w', (Builtin.append_ #[t, t] ty #[v, .slice (some a) 1 c]).run P w = .ok v' w' ∧ FA base N0 e v (n + 1) (xs ++ cs) v' w' ∧ GA base e v (n + 1) (xs ++ cs) w w' := by
 obtain ⟨i, hi, hz, hsize, hby⟩ := info_parts hinfo
 by_cases hroom : ∃ g cap, v = .slice (some ⟨g, 0, none⟩) n cap ∧ n + 1 ≤ cap
 ·obtain ⟨g, cap, rfl, hcap⟩ := hroom
  obtain ⟨w', hr, h2, h3⟩ := run_append_fits (P := P) w base t ty e i 2 ht hi hsize g n cap xs hown a 1 c cs (by rw [hcl]) hu h1 hcap
  refine ⟨_, w', hr, ⟨h2, .inl rfl⟩, ⟨⟨h3.os, h3.tape, h3.output, h3.size, fun k hk hn => h3.block k hk (fun e => hn (by rw [e]; rfl))⟩, fun g' hg' => .inr h2⟩⟩
 ·-- a new block
  have hlen := hown.1
  have mk : ∀ (old : Nat), old < n + 1 →
    (w.drew.alloc (.cells (xs.toArray ++ cs.toArray ++ Builtin.zeroCells z.cells (grownCap w (n + 1) old e - (n + 1))) e)).ownsRow base e 2
     (.slice (some ⟨w.heap.size, 0, none⟩) (n + 1) (grownCap w (n + 1) old e)) (n + 1) (xs ++ cs) ∧
    KB (fun _ => False) w (w.drew.alloc (.cells (xs.toArray ++ cs.toArray ++ Builtin.zeroCells z.cells (grownCap w (n + 1) old e - (n + 1))) e)) := by
   intro old ho
   have hge := grownCap_ge w (n + 1) old e
   have hcm : grownCap w (n + 1) old e ≤ maxLen := grownCap_le_maxLen w (n + 1) old e h63
   refine ⟨⟨by rw [List.length_append, hlen, hcl]; omega, .inr ⟨w.heap.size, _, _, rfl, hbase, heap_alloc_new w.drew _, hge, hcm, ?_, ?_⟩⟩, (KB.refl _ _).drew.alloc _⟩
   ·simp only [Array.size_append, List.size_toArray, size_zeroCells, hzs, hlen, hcl]
    omega
   ·simp only [Array.toList_append, List.append_assoc]
    rw [← List.append_assoc, show (n + 1) * 2 = (xs ++ cs).length by rw [List.length_append, hlen, hcl]; omega]
    exact List.take_left
  have hlt : ∀ g, v.ownBlock = some g → g < w.heap.size := fun g hg => by
   rcases hown.2 with ⟨rfl, -⟩ | ⟨g', cap, cur, rfl, -, hh, -⟩
   ·cases hg
   ·simp [Value.ownBlock] at hg; subst hg; exact heap_lt hh
  have fin : ∀ {w' : World} {cap' : Nat}, w'.ownsRow base e 2 (.slice (some ⟨w.heap.size, 0, none⟩) (n + 1) cap') (n + 1) (xs ++ cs) → KB (fun _ => False) w w' →
    FA base N0 e v (n + 1) (xs ++ cs) (.slice (some ⟨w.heap.size, 0, none⟩) (n + 1) cap') w' ∧ GA base e v (n + 1) (xs ++ cs) w w' := fun h2 hk =>
   ⟨⟨h2, .inr (fun g hg => by
    simp [Value.ownBlock] at hg
    exact ⟨fun hv => by have := hlt g hv; omega, by omega⟩)⟩, hk.mono (fun _ _ h => h.elim), fun g hg => .inl (hk.block g (hlt g hg) (fun x => x))⟩
  rcases hown.2 with ⟨rfl, rfl⟩ | ⟨g, cap, cur, rfl, hbg, hg, hnc, hcm, hcs, htake⟩
  ·have hx : xs = [] := List.eq_nil_of_length_eq_zero (by simpa using hlen)
   subst hx
   have hr := run_append_nil (P := P) w t ty e i z ht hi hz a 1 c cs (by rw [hsize, hcl]) hu (by omega) (by omega) (by rw [hby]; simp only [Nat.zero_add, Nat.one_mul] at hbytes; omega)
   obtain ⟨m1, m2⟩ := mk 0 (by omega)
   simp only [Nat.zero_add, List.nil_append, Array.empty_append] at m1 m2 fin ⊢
   exact ⟨_, _, hr, fin m1 m2⟩
  ·have hcap : cap < n + 1 := by
    apply Classical.byContradiction
    intro h
    exact hroom ⟨g, cap, rfl, by omega⟩
   have hr := run_append_grow (P := P) w t ty e i z ht hi hz ⟨g, 0, none⟩ n cap xs (by rw [hsize]; exact hlen) (hown.cells (g := g) rfl) a 1 c cs (by rw [hsize, hcl]) hu (by omega) (by unfold maxLen at h63; omega)
    (growslice_fits (by omega) (by rw [hby]; exact hbytes))
   obtain ⟨m1, m2⟩ := mk cap hcap
   exact ⟨_, _, hr, fin m1 m2⟩
theorem opVal_append {P : Program} {o : Oper} {act : Act} {w : World} (base N0 : Nat) (hN0 : N0 ≤ w.heap.size) (s x : Operand) (t e : TypeId) {z : Value} {bytes : Nat} (ho : o.op = .call { callee := .builtin .append, args := #[s, x], argTypes := #[t, t] })
  (hinfo : (P.info? e).map (fun i => (i.zero, i.size, i.bytes)) = some (some z, 2, bytes)) (ht : P.underlying t = some (.slice e)) (hzs : z.cells.size = 2)
  (v : Value) (n : Nat) (xs : List Value) (hs : act.eval s = v) (hown : w.ownsRow base e 2 v n xs) (nb c : Nat) (cs : List Value) (hcl : cs.length = 2) (te : TypeId) (hx : act.eval x = .slice (some ⟨nb, 0, none⟩) 1 c) (hu : w.heap[nb]? = some (.cells cs.toArray te (0, 0))) (h1 : ∀ x ∈ cs, x.oneCell' = true)
  (h63 : n + 1 ≤ maxLen) (hbytes : (n + 1) * bytes ≤ 140737488355328) (hbase : base ≤ w.heap.size) :
  OpVal P o act w (fun v' w' => FA base N0 e v (n + 1) (xs ++ cs) v' w' ∧ GA base e v (n + 1) (xs ++ cs) w w') := by
 obtain ⟨v', w', hr, h2, h3⟩ := run_append_two (P := P) w base N0 hN0 t o.type e hinfo ht hzs v n xs hown ⟨nb, 0, none⟩ c cs hcl (cells_of_block hu) h1 h63 hbytes hbase
 refine opVal_value (v := v') (w' := w') ?_ ⟨h2, h3⟩
 unfold execOp
 simp only [ho, resolve, invoke, builtin, Sem.run_bind, Sem.run_pure, Result.andThen_ok, List.map_toArray, List.map_cons, List.map_nil, hs, hx, hr]
theorem opVal_imp {P : Program} {o : Oper} {a : Act} {w : World} {ψ φ : Value → World → Prop} (h : OpVal P o a w ψ) (hi : ∀ v w', ψ v w' → φ v w') : OpVal P o a w φ := by
 unfold OpVal at h ⊢
 split at h
 ·exact hi _ _ h
 ·exact h.mono fun e w' ⟨v, h1, h2⟩ => ⟨v, h1, hi _ _ h2⟩
 ·exact h
end Go.Proofs.YtaeppaaolkcbbaaGreatDoor.A2

/- loanwordref23.Boxes. layout.May: shapes that may be. -/
import Derived.Test.YtaeppaaolkcbbaaGreatDoorMg17
import Derived.Test.YtaeppaaolkcbbaaGreatDoorMg09
import Derived.Deep.LoopGhost
namespace Go.Proofs.YtaeppaaolkcbbaaGreatDoor
open Go.RowKit

theorem own_cellsZ {w : World} {B size n c : Nat} {e : TypeId} {a : Option Addr} {cs : List Value} (h : w.ownsRow B e size (.slice a n c) n cs) (hn : 0 < n) : ∃ q, a = some ⟨q, 0, none⟩ ∧ n ≤ c ∧ ∀ j, j < n * size → w.cell? ⟨q, j, none⟩ = cs[j]? := by
 rcases h.2 with ⟨h1, h2⟩ | ⟨q, cap, cur, h1, -, -, h4, -⟩
 ·omega
 ·cases h1
  exact ⟨q, rfl, h4, fun j hj => h.cellAt j hj⟩
theorem bxN_at {S : List (List Ty)} {t : Ty} {i : Nat} (h : i < (bxF S 34 t 0).length) : (bxN S t)[i]? = some ((bxF S 34 t 0)[i].1 : Int) := by
 unfold bxN atsI
 rw [List.getElem?_map, List.getElem?_eq_getElem h]
 rfl
set_option maxRecDepth 100000 in
set_option maxHeartbeats 32000000 in
theorem rlBoxes_any (S : List (List Ty)) (hn : S.length ≤ 1000000) (hl : ∀ i, (fds S i).length ≤ 1000000) (a : Option Addr) (c : Nat) (t : Ty) (ta : Option Addr) (tc : Nat) (w : World) (h : StsAt 49 w a S) (ht : TyAt 49 w t ta tc) :
  Calls Tryz.prog 16 #[.slice a S.length c, tyV t ta tc] w (BoxesEnd S t w) := by
 obtain ⟨w0, rfl⟩ : ∃ w0, w0 = w := ⟨_, rfl⟩
 obtain ⟨W, hW⟩ : ∃ W, W = w0.alloc (.cells #[.int .u8 t.k, .bool t.m, .int .i64 t.r, .int .i64 t.s, .slice ta t.of.length tc] 26) := ⟨_, rfl⟩
 obtain ⟨kb, hb⟩ := boxTy w0 t ta tc
 rw [← hW] at kb hb
 have MY := Lib.hid (rzMay_any S hn hl a c t ta tc W (h.kbF kb) (ht.kbF kb))
 have BX : Hid (∀ w1, KB F0 W w1 → MayT S t → ∃ us, BdOk w1 (bxF S 34 t 0) us ∧ Calls Tryz.prog 42 #[.slice a S.length c, tyV t ta tc, .int .i64 (0 : Nat)] w1 (BdEnd (bxF S 34 t 0).length us w1)) := Lib.hid (fun w1 h1 hm => by
  have h16 := hm.1.w16 34 t (hm.1.fin t) (look_inT hm.2)
  obtain ⟨us, h2, h3⟩ := rlboxes_any hm.1 a c w1 (h.kbF (kb.trans h1)) 34 (by omega) t ta tc 0 (hm.1.fin t) hm.2 (by omega) (ht.kbF (kb.trans h1))
  exact ⟨us, h2, h3 w1 (KB.refl _ _)⟩)
 have HL : Hid (MayT S t → (bxF S 34 t 0).length ≤ 16) := Lib.hid (fun hm => by have := bxN_len S hm.1 t hm.2; unfold bxN atsI at this; rwa [List.length_map] at this)
 have HW := Lib.hid hW
 have HB := Lib.hid (And.intro kb hb)
 obtain ⟨c0, c1, c2, c3, c4⟩ := TyCells.of_block hb
 simp only [Nat.zero_add] at c0 c1 c2 c3 c4
 unfold tyV at MY BX ⊢
 obtain ⟨LS, hLS⟩ : ∃ L, L = S.length := ⟨_, rfl⟩
 rw [← hLS] at MY BX ⊢
 clear kb hb hW h ht hn hl hLS
 obtain ⟨tk, htk⟩ : ∃ x, x = t.k := ⟨_, rfl⟩
 obtain ⟨tm, htm⟩ : ∃ x, x = t.m := ⟨_, rfl⟩
 obtain ⟨tr, htr⟩ : ∃ x, x = t.r := ⟨_, rfl⟩
 obtain ⟨ts, hts⟩ : ∃ x, x = t.s := ⟨_, rfl⟩
 obtain ⟨tl, htl⟩ : ∃ x, x = t.of.length := ⟨_, rfl⟩
 rw [← htk, ← htm, ← htr, ← hts, ← htl] at MY BX HW HB ⊢
 rw [← htk] at c0
 rw [← htm] at c1
 rw [← htr] at c2
 rw [← hts] at c3
 rw [← htl] at c4
 clear htk htm htr hts htl
 go_enter Tryz.func16, Tryz.ntmps16
 go_upto_region 1 with fail
 rw [← HW.out]
 go_wp2_with fail
 refine MY.out.mono ?_
 rintro e w1 ⟨ok, rfl, hok, k1⟩
 have K1 := Lib.hid (And.intro hok k1)
 have hb1 := k1.heap (fun x => x) HB.out.2
 clear c0 c1 c2 c3 c4
 have c0 : w1.cell? ⟨w0.heap.size, 0, none⟩ = some (.int .u8 tk) := blk_cell hb1 0
 have c1 : w1.cell? ⟨w0.heap.size, 1, none⟩ = some (.bool tm) := blk_cell hb1 1
 have c2 : w1.cell? ⟨w0.heap.size, 2, none⟩ = some (.int .i64 tr) := blk_cell hb1 2
 have c3 : w1.cell? ⟨w0.heap.size, 3, none⟩ = some (.int .i64 ts) := blk_cell hb1 3
 have c4 : w1.cell? ⟨w0.heap.size, 4, none⟩ = some (.slice ta tl tc) := blk_cell hb1 4
 clear k1 hok hb1 MY
 cases ok with
 | false =>
  go_wp2_with fail
  go_ret2
  exact Or.inr ⟨fun hm => absurd (K1.out.1.2 hm) (by decide), rfl, HB.out.1.trans K1.out.2⟩
 | true =>
  have HM : Hid (MayT S t) := Lib.hid (K1.out.1.1 (by first | rfl | trivial))
  obtain ⟨us, hus, hcall⟩ := BX.out w1 K1.out.2 HM.out
  have HU := Lib.hid hus
  have HC := Lib.hid hcall
  have hM16 := HL.out HM.out
  obtain ⟨M, hM⟩ : ∃ M, M = (bxF S 34 t 0).length := ⟨_, rfl⟩
  rw [← hM] at HC hM16
  have HMM := Lib.hid hM
  clear hus hcall hM
  go_wp2_with fail
  refine HC.out.mono ?_
  rintro e w2 ⟨v, rfl, hown, hnil, k2⟩
  obtain ⟨la, lc, rfl, hMc, -⟩ := own_shape hown
  have HO := Lib.hid (And.intro hown (HB.out.1.trans (K1.out.2.trans k2)))
  have HS1 : Hid (w0.heap.size ≤ w1.heap.size) := Lib.hid (by have h1 := HB.out.1.size; have h2 := K1.out.2.size; omega)
  clear hown hnil k2 c0 c1 c2 c3 c4 HC
  go_upto_region 6 with fail
  go_loopg [8, 7] M (fun g iv ov wr => ∃ (i : Nat) (va : Option Addr) (vc : Nat), i ≤ M ∧ g = M - i ∧ iv = .int .i64 (i : Nat) ∧ ov = .slice va i vc ∧ Hid (KB F0 w0 wr ∧ wr.ownsRow w0.heap.size 3 1 (.slice va i vc) i (intsV ((bxN S t).take i)) ∧ wr.ownsRow w1.heap.size 101 6 (.slice la M lc) M us))
  case atStart => exact ⟨0, none, 0, by omega, by omega, rfl, rfl, Lib.hid ⟨HO.out.2, ⟨by simp [intsV], Or.inl ⟨rfl, rfl⟩⟩, HO.out.1⟩⟩
  case round =>
   obtain ⟨i, va, vc, hi, rfl, rfl, rfl, hst⟩ := hrel
   obtain ⟨wi, rfl⟩ : ∃ x : World, x = wr := ⟨_, rfl⟩
   by_cases hlt : i < M
   ·have hiI : (i : Int) < (M : Int) := by omega
    have dI : decide ((i : Int) < (M : Int)) = true := decide_eq_true hiI
    obtain ⟨q, rfl, -, hcell⟩ := own_cellsZ hst.out.2.2 (by omega)
    have hiL : i < (bxF S 34 t 0).length := by rw [← HMM.out]; exact hlt
    obtain ⟨p, hp⟩ : ∃ p, p = (bxF S 34 t 0)[i].1 := ⟨_, rfl⟩
    have hc : wi.cell? ⟨q, i * 6, none⟩ = some (.int .i64 (p : Nat)) := by
     obtain ⟨ua, uc, h1, -⟩ := HU.out.els i hiL
     have h2 := h1 0 (by omega)
     rw [hcell (i * 6) (by omega), hp]
     simpa [bdCs] using h2
    have HN : Hid (intsV ((bxN S t).take (i + 1)) = intsV ((bxN S t).take i) ++ [.int .i64 (p : Nat)]) := Lib.hid (by
     rw [List.take_add_one, bxN_at hiL, hp]; simp [intsV])
    have HI := Lib.hid hst.out
    clear hst hcell hp hiL
    go_wp2_with (at_builtin; refine Stopped.out ?_)
    refine ⟨?_⟩
    obtain ⟨W2, hW2⟩ : ∃ X, X = wi.alloc (.cells #[.int .i64 (p : Nat)] 3) := ⟨_, rfl⟩
    have k2 : KB F0 wi W2 := by rw [hW2]; exact (KB.refl _ _).alloc _
    have hnb : W2.heap[wi.heap.size]? = some (.cells #[.int .i64 (p : Nat)] 3 (0, 0)) := by rw [hW2]; exact alloc_new _ _
    rw [show wi.alloc (.cells #[.int .i64 (p : Nat)] 3) = W2 from hW2.symm]
    have hown := own_kb HI.out.2.1 k2 (fun _ _ x => x)
    have hown2 := own_kb HI.out.2.2 k2 (fun _ _ x => x)
    have s0 := HI.out.1.size
    have s2 := k2.size
    refine app1 40 3 w0.heap.size (.int .i64 (p : Nat)) Tryz.infoIntV Tryz.underlying40 rfl hown rfl rfl rfl rfl (blk_cell hnb 0) rfl (by unfold maxLen; omega) (by omega) (by omega) ?_
    intro v3 w3 hown3 hgr
    obtain ⟨va3, vc3, rfl, -⟩ := own_shape hown3
    have HN2 : Hid (KB F0 w0 w3 ∧ w3.ownsRow w0.heap.size 3 1 (.slice va3 (i + 1) vc3) (i + 1) (intsV ((bxN S t).take (i + 1))) ∧ w3.ownsRow w1.heap.size 101 6 (.slice (some ⟨q, 0, none⟩) M lc) M us) := Lib.hid ⟨(HI.out.1.trans k2).grown hgr (fun k e h => by have := (hown.lt k e).1; omega), by rw [HN.out]; exact hown3,
     own_kb hown2 (S := fun k => (Value.slice va i vc).ownBlock = some k) ⟨hgr.os, hgr.tape, hgr.output, hgr.size, fun k hk hne => hgr.block k hk (fun e => hne e.symm)⟩ (fun k e1 e2 => by
      obtain ⟨c1, h1, -⟩ := own_block hown2 e1
      obtain ⟨c2, h2, -⟩ := own_block hown e2
      exact obj_ne h1 h2 (by decide) rfl)⟩
    clear hown hown2 hown3 hgr k2 hnb hW2 s0 s2 hc HI
    go_wp2_with fail
    go_roundg (M - (i + 1))
    case measure => omega
    case rel => exact ⟨i + 1, va3, vc3, by omega, rfl, by go_num, rfl, HN2⟩
   ·obtain rfl : i = M := by omega
    have dI : decide ((i : Int) < (i : Int)) = false := decide_eq_false (by omega)
    have HE : Hid (BoxesEnd S t w0 (.returned (.tuple #[.slice va i vc, .int .i64 0])) wi) := Lib.hid (Or.inl ⟨HM.out, _, rfl, by
     have e : (bxN S t).length = i := by rw [HMM.out]; unfold bxN atsI; rw [List.length_map]
     have h2 := hst.out.2.1
     rw [List.take_of_length_le (by omega)] at h2
     rw [e]; exact h2, hst.out.1⟩)
    clear hst
    go_wp2_with fail
    go_ret2
    exact HE.out

abbrev ShpL := Int × List (Int × Int × Int)
def shp0 : ShpL := (0, [])
def BxsAt (w : World) (a : Option Addr) (l : List (Int × Int × Int)) : Prop := ∀ k (h : k < l.length), ∃ b off, a = some ⟨b, off, none⟩ ∧ w.cell? ⟨b, off + k * 3, none⟩ = some (.int .i64 l[k].1) ∧ w.cell? ⟨b, off + k * 3 + 1, none⟩ = some (.int .i64 l[k].2.1) ∧ w.cell? ⟨b, off + k * 3 + 2, none⟩ = some (.int .i64 l[k].2.2)
theorem BxsAt.kbF {w w' : World} {a : Option Addr} {l : List (Int × Int × Int)} (h : BxsAt w a l) (hk : KB F0 w w') : BxsAt w' a l := fun k hl => by
 obtain ⟨b, off, e, h1, h2, h3⟩ := h k hl
 exact ⟨b, off, e, hk.cell (p := ⟨b, off + k * 3, none⟩) (fun x => x) h1, hk.cell (p := ⟨b, off + k * 3 + 1, none⟩) (fun x => x) h2, hk.cell (p := ⟨b, off + k * 3 + 2, none⟩) (fun x => x) h3⟩
def ShsAt (w : World) (a : Option Addr) (l : List ShpL) : Prop := ∀ k, k < l.length → ∃ b off ba bc, a = some ⟨b, off, none⟩ ∧ w.cell? ⟨b, off + k * 2, none⟩ = some (.int .i64 (l.getD k shp0).1) ∧ w.cell? ⟨b, off + k * 2 + 1, none⟩ = some (.slice ba (l.getD k shp0).2.length bc) ∧ BxsAt w ba (l.getD k shp0).2
theorem ShsAt.kbF {w w' : World} {a : Option Addr} {l : List ShpL} (h : ShsAt w a l) (hk : KB F0 w w') : ShsAt w' a l := fun k hl => by
 obtain ⟨b, off, ba, bc, e, h1, h2, h3⟩ := h k hl
 exact ⟨b, off, ba, bc, e, hk.cell (p := ⟨b, off + k * 2, none⟩) (fun x => x) h1, hk.cell (p := ⟨b, off + k * 2 + 1, none⟩) (fun x => x) h2, h3.kbF hk⟩
abbrev shpV (s : ShpL) (ba : Option Addr) (bc : Nat) : Value := .agg #[.int .i64 s.1, .slice ba s.2.length bc]
def badL (l : List ShpL) (wd : Int) : Int → List (Int × Int × Int) → Bool
 | _, [] => false
 | last, x :: r => if x.1 ≤ last ∨ wd ≤ x.1 ∨ x.2.1 < 0 ∨ 5 ≤ x.2.1 ∨ x.2.2 < -1 ∨ (l.length : Int) ≤ x.2.2 then true else if x.2.2 < 0 then badL l wd x.1 r else if (clsW (l.getD x.2.2.toNat shp0).1).2 = 0 ∧ (clsW (l.getD x.2.2.toNat shp0).1).1 = x.2.1 then badL l wd x.1 r else true
def shBad (l : List ShpL) (s : ShpL) : Bool := badL l s.1 (-1) s.2 || (decide (s.1 < 1) || (decide (16 < s.1) || decide (s.2.length = 0)))
def mayS (l : List ShpL) : Bool := !decide (4096 < l.length) && !l.any (shBad l)
set_option maxRecDepth 100000 in
set_option maxHeartbeats 16000000 in
theorem ixShps_any (g : FuncId) (cap : Array Value) (hen : ∀ args W, (callFunc g args).run Tryz.prog W = .ok (.enter g args) W) (q : ShpL → Bool) (l : List ShpL) (hl : l.length ≤ 1000000) (a : Option Addr) (c : Nat) (w : World) (hn : ∀ s ba bc W, s ∈ l → KB F0 w W → BxsAt W ba s.2 → Calls Tryz.prog g (#[shpV s ba bc] ++ cap) W fun e w' => e = .returned (.bool (q s)) ∧ KB F0 W w') (h : ShsAt w a l) :
  Calls Tryz.prog 77 #[.slice a l.length c, .func (.func g) #[] cap] w fun e w' => ∃ k : Int, e = .returned (.int .i64 k) ∧ decide (0 ≤ k) = l.any q ∧ KB F0 w w' := by
 obtain ⟨w0, rfl⟩ : ∃ w0, w0 = w := ⟨_, rfl⟩
 obtain ⟨L, hL⟩ : ∃ L, L = l.length := ⟨_, rfl⟩
 rw [← hL] at hl ⊢
 have HH := Lib.hid (And.intro hn (And.intro h hL))
 clear hn h hL
 go_enter Tryz.func77, Tryz.ntmps77
 go_wp2_with fail
 go_loopw [8] (fun kv wr => ∃ k : Nat, k ≤ L ∧ kv = .int .i64 (k : Nat) ∧ Hid (KB F0 w0 wr ∧ ∀ j, j < k → q (l.getD j shp0) = false)) (fun kv _ => L - (intOf kv).toNat)
 case atStart => exact ⟨0, by omega, rfl, Lib.hid ⟨KB.refl _ _, fun j hj => by omega⟩⟩
 case round =>
  obtain ⟨k, hk, rfl, hst⟩ := hrel
  by_cases hlt : k < L
  ·have hkI : (k : Int) < (L : Int) := by omega
   have dk : decide ((k : Int) < (L : Int)) = true := decide_eq_true hkI
   obtain ⟨b, o, ba, bc, rfl, hnm, hsl, hbx⟩ := HH.out.2.1 k (by rw [← HH.out.2.2]; exact hlt)
   have n0 := hst.out.1.cell (p := ⟨b, o + k * 2, none⟩) (fun x => x) hnm
   have n1 := hst.out.1.cell (p := ⟨b, o + k * 2 + 1, none⟩) (fun x => x) hsl
   have CL := HH.out.1 (l.getD k shp0) ba bc wr (by rw [List.getD_eq_getElem?_getD, List.getElem?_eq_getElem (by rw [← HH.out.2.2]; exact hlt)]; exact List.getElem_mem _) hst.out.1 (hbx.kbF hst.out.1)
   unfold shpV at CL
   obtain ⟨qv, hq⟩ : ∃ qv, qv = q (l.getD k shp0) := ⟨_, rfl⟩
   rw [← hq] at CL
   have HQ := Lib.hid hq
   have CL2 := Lib.hid CL
   generalize l.getD k shp0 = f at n0 n1 CL2
   clear hnm hsl hbx CL hq
   generalize f.1 = fk at *
   generalize f.2.length = N at *
   go_wp2_with fail
   refine CL2.out.mono ?_
   rintro e w1 ⟨rfl, k1⟩
   have K1 := Lib.hid (hst.out.1.trans k1)
   clear k1 n0 n1
   cases qv with
   | true =>
    have HA : Hid (decide ((0 : Int) ≤ (k : Int)) = l.any q) := Lib.hid (by
     rw [any_getD (d := shp0) (by rw [← HH.out.2.2]; exact hlt) HQ.out.symm]
     exact decide_eq_true (by omega))
    go_wp2_with fail
    go_ret
    exact ⟨_, rfl, HA.out, K1.out⟩
   | false =>
    have HN : Hid (KB F0 w0 w1 ∧ ∀ j, j < k + 1 → q (l.getD j shp0) = false) := Lib.hid ⟨K1.out, fun j hj => by
     rcases Nat.lt_or_eq_of_le (Nat.lt_succ_iff.1 hj) with h1 | rfl
     ·exact hst.out.2 j h1
     ·exact HQ.out.symm⟩
    go_wp2_with fail
    exact ⟨⟨k + 1, by omega, by go_num, HN⟩, by simp [intOf]; omega⟩
  ·obtain rfl : k = L := by omega
   have dk : decide ((k : Int) < (k : Int)) = false := decide_eq_false (by omega)
   have HA : Hid (decide ((0 : Int) ≤ -1) = l.any q) := Lib.hid (by
    rw [any_none (d := shp0) (fun i hi => hst.out.2 i (by rw [HH.out.2.2]; exact hi))]
    exact decide_eq_false (by omega))
   have HK := Lib.hid hst.out.1
   clear hst
   go_wp2_with fail
   go_ret
   exact ⟨_, rfl, HA.out, HK.out⟩
set_option maxRecDepth 100000 in
set_option maxHeartbeats 16000000 in
theorem ctShps_any (g : FuncId) (cap : Array Value) (hen : ∀ args W, (callFunc g args).run Tryz.prog W = .ok (.enter g args) W) (q : ShpL → Bool) (l : List ShpL) (hl : l.length ≤ 1000000) (a : Option Addr) (c : Nat) (w : World) (hn : ∀ s ba bc W, s ∈ l → KB F0 w W → BxsAt W ba s.2 → Calls Tryz.prog g (#[shpV s ba bc] ++ cap) W fun e w' => e = .returned (.bool (q s)) ∧ KB F0 W w') (h : ShsAt w a l) :
  Calls Tryz.prog 44 #[.slice a l.length c, .func (.func g) #[] cap] w fun e w' => e = .returned (.bool (l.any q)) ∧ KB F0 w w' := by
 obtain ⟨w0, rfl⟩ : ∃ w0, w0 = w := ⟨_, rfl⟩
 have IX := Lib.hid (ixShps_any g cap hen q l hl a c w0 hn h)
 clear hn h hl
 generalize l.length = L at IX ⊢
 generalize l.any q = r at IX ⊢
 go_enter Tryz.func44, Tryz.ntmps44
 go_wp2_with fail
 refine IX.out.mono ?_
 rintro e w1 ⟨k, rfl, rfl, hk⟩
 have K := Lib.hid hk
 clear hk IX
 go_wp2_with fail
 all_goals
  go_ret
  exact ⟨ret_eq (by first | rfl | simp_all), K.out⟩
theorem badL_cons (l : List ShpL) (wd last x0 x1 x2 : Int) (r : List (Int × Int × Int)) : badL l wd last ((x0, x1, x2) :: r) = if x0 ≤ last ∨ wd ≤ x0 ∨ x1 < 0 ∨ 5 ≤ x1 ∨ x2 < -1 ∨ (l.length : Int) ≤ x2 then true else if x2 < 0 then badL l wd x0 r else if (clsW (l.getD x2.toNat shp0).1).2 = 0 ∧ (clsW (l.getD x2.toNat shp0).1).1 = x1 then badL l wd x0 r else true := rfl
set_option maxRecDepth 100000 in
set_option maxHeartbeats 32000000 in
theorem lyMay1_any (l : List ShpL) (hl : l.length ≤ 1000000) (la : Option Addr) (lc Bl : Nat) (s : ShpL) (hs : s.2.length ≤ 1000000) (ba : Option Addr) (bc : Nat) (w : World) (hb : w.cell? ⟨Bl, 0, none⟩ = some (.slice la l.length lc)) (hL : ShsAt w la l) (hB : BxsAt w ba s.2) :
  Calls Tryz.prog 43 #[shpV s ba bc, .pointer (some ⟨Bl, 0, none⟩)] w fun e w' => e = .returned (.bool (shBad l s)) ∧ KB F0 w w' := by
 obtain ⟨w0, rfl⟩ : ∃ w0, w0 = w := ⟨_, rfl⟩
 obtain ⟨NL, hNL⟩ : ∃ n, n = l.length := ⟨_, rfl⟩
 obtain ⟨N, hN⟩ : ∃ n, n = s.2.length := ⟨_, rfl⟩
 obtain ⟨wd, hwd⟩ : ∃ x, x = s.1 := ⟨_, rfl⟩
 unfold shpV
 obtain ⟨W, hW⟩ : ∃ W, W = w0.alloc (.cells #[.int .i64 wd, .slice ba N bc] 32) := ⟨_, rfl⟩
 have kW : KB F0 w0 W := by rw [hW]; exact (KB.refl _ _).alloc _
 have bW : W.heap[w0.heap.size]? = some (.cells #[.int .i64 wd, .slice ba N bc] 32 (0, 0)) := by rw [hW]; exact alloc_new _ _
 have s1 : W.cell? ⟨w0.heap.size, 1, none⟩ = some (.slice ba N bc) := blk_cell bW 1
 rw [← hwd, ← hN]
 have HH := Lib.hid (And.intro hb (And.intro hL (And.intro hB (And.intro hNL (And.intro hN (And.intro hwd (And.intro kW bW)))))))
 have hNb : N ≤ 1000000 := by rw [hN]; exact hs
 have hNLb : NL ≤ 1000000 := by rw [hNL]; exact hl
 have HW := Lib.hid hW
 clear hW kW bW hb hL hB hNL hN hwd hs hl
 go_enter Tryz.func43, Tryz.ntmps43
 go_upto_region 3 with fail
 rw [← HW.out]
 clear s1
 go_loopg [12, 4] N (fun gg kv lv wr => ∃ (k : Nat) (last : Int), k ≤ N ∧ gg = N - k ∧ kv = .int .i64 (k : Nat) ∧ lv = .int .i64 last ∧ Hid (KB F0 W wr ∧ badL l s.1 (-1) s.2 = badL l s.1 last (s.2.drop k)))
 case atStart => exact ⟨0, -1, by omega, by omega, rfl, rfl, Lib.hid ⟨KB.refl _ _, rfl⟩⟩
 case round =>
  obtain ⟨k, last, hk, rfl, rfl, rfl, hst⟩ := hrel
  have K0 := Lib.hid (HH.out.2.2.2.2.2.2.1.trans hst.out.1)
  have g0 : wr.cell? ⟨w0.heap.size, 0, none⟩ = some (.int .i64 wd) := blk_cell (hst.out.1.heap (fun x => x) HH.out.2.2.2.2.2.2.2) 0
  by_cases hlt : k < N
  ·as_aux_lemma =>
   have hkI : (k : Int) < (N : Int) := by omega
   have dk : decide ((k : Int) < (N : Int)) = true := decide_eq_true hkI
   have hkL : k < s.2.length := by rw [← HH.out.2.2.2.2.1]; exact hlt
   obtain ⟨bb, bo, rfl, b0, b1, b2⟩ := (HH.out.2.2.1.kbF K0.out) k hkL
   obtain ⟨x0, x1, x2, hx⟩ : ∃ x0 x1 x2, s.2[k] = (x0, x1, x2) := ⟨_, _, _, rfl⟩
   rw [hx] at b0 b1 b2
   have hdr : s.2.drop k = (x0, x1, x2) :: s.2.drop (k + 1) := by rw [← hx]; exact List.drop_eq_getElem_cons hkL
   have l0 : wr.cell? ⟨Bl, 0, none⟩ = some (.slice la NL lc) := by rw [HH.out.2.2.2.1]; exact K0.out.cell (p := ⟨Bl, 0, none⟩) (fun x => x) HH.out.1
   have HDR := Lib.hid hdr
   have HTR : Hid (badL l s.1 (-1) s.2 = true → shBad l s = true) := Lib.hid (fun h => by unfold shBad; rw [h, Bool.true_or])
   have HBD : Hid (((x0 ≤ last ∨ wd ≤ x0 ∨ x1 < 0 ∨ 5 ≤ x1 ∨ x2 < -1 ∨ (NL : Int) ≤ x2) → badL l s.1 (-1) s.2 = true) ∧ (¬ (x0 ≤ last ∨ wd ≤ x0 ∨ x1 < 0 ∨ 5 ≤ x1 ∨ x2 < -1 ∨ (NL : Int) ≤ x2) → badL l s.1 (-1) s.2 = if x2 < 0 then badL l s.1 x0 (s.2.drop (k + 1)) else if (clsW (l.getD x2.toNat shp0).1).2 = 0 ∧ (clsW (l.getD x2.toNat shp0).1).1 = x1 then badL l s.1 x0 (s.2.drop (k + 1)) else true)) := Lib.hid (by
    rw [hst.out.2, hdr, badL_cons, ← HH.out.2.2.2.1, ← HH.out.2.2.2.2.2.1]
    exact ⟨fun h => if_pos h, fun h => if_neg h⟩)
   obtain ⟨w4, h4⟩ : ∃ w4, w4 = wr.alloc (.cells #[.int .i64 x0, .int .i64 x1, .int .i64 x2] 61) := ⟨_, rfl⟩
   have k4 : KB F0 wr w4 := by rw [h4]; exact (KB.refl _ _).alloc _
   have e4 : w4.heap[wr.heap.size]? = some (.cells #[.int .i64 x0, .int .i64 x1, .int .i64 x2] 61 (0, 0)) := by rw [h4]; exact alloc_new _ _
   have y0 : w4.cell? ⟨wr.heap.size, 0, none⟩ = some (.int .i64 x0) := blk_cell e4 0
   have y1 : w4.cell? ⟨wr.heap.size, 1, none⟩ = some (.int .i64 x1) := blk_cell e4 1
   have y2 : w4.cell? ⟨wr.heap.size, 2, none⟩ = some (.int .i64 x2) := blk_cell e4 2
   have g4 := k4.cell (p := ⟨w0.heap.size, 0, none⟩) (fun x => x) g0
   have l4 := k4.cell (p := ⟨Bl, 0, none⟩) (fun x => x) l0
   have K5 := Lib.hid (K0.out.trans k4)
   have KW := Lib.hid (hst.out.1.trans k4)
   have H4 := Lib.hid h4
   clear h4 k4 e4 hx hdr hst g0 l0
   go_upto_region 5 with fail
   rw [← H4.out]
   clear b0 b1 b2
   by_cases q0 : x0 ≤ last
   ·have HR : Hid (shBad l s = true) := Lib.hid (HTR.out (HBD.out.1 (Or.inl q0)))
    have d0 : decide (x0 ≤ last) = true := decide_eq_true q0
    clear HTR HBD
    as_aux_lemma =>
    go_wp2_with fail
    all_goals
     go_ret
     exact ⟨ret_eq (by rw [HR.out]; rfl), K5.out⟩
   have d0 : decide (x0 ≤ last) = false := decide_eq_false q0
   by_cases q1 : wd ≤ x0
   ·have HR : Hid (shBad l s = true) := Lib.hid (HTR.out (HBD.out.1 (Or.inr (Or.inl q1))))
    have d1 : decide (wd ≤ x0) = true := decide_eq_true q1
    clear HTR HBD
    as_aux_lemma =>
    go_wp2_with fail
    all_goals
     go_ret
     exact ⟨ret_eq (by rw [HR.out]; rfl), K5.out⟩
   have d1 : decide (wd ≤ x0) = false := decide_eq_false q1
   by_cases q2 : x1 < 0
   ·have HR : Hid (shBad l s = true) := Lib.hid (HTR.out (HBD.out.1 (Or.inr (Or.inr (Or.inl q2)))))
    have d2 : decide (x1 < 0) = true := decide_eq_true q2
    clear HTR HBD
    as_aux_lemma =>
    go_wp2_with fail
    all_goals
     go_ret
     exact ⟨ret_eq (by rw [HR.out]; rfl), K5.out⟩
   have d2 : decide (x1 < 0) = false := decide_eq_false q2
   by_cases q3 : 5 ≤ x1
   ·have HR : Hid (shBad l s = true) := Lib.hid (HTR.out (HBD.out.1 (Or.inr (Or.inr (Or.inr (Or.inl q3))))))
    have d3 : decide (5 ≤ x1) = true := decide_eq_true q3
    clear HTR HBD
    as_aux_lemma =>
    go_wp2_with fail
    all_goals
     go_ret
     exact ⟨ret_eq (by rw [HR.out]; rfl), K5.out⟩
   have d3 : decide (5 ≤ x1) = false := decide_eq_false q3
   by_cases q4 : x2 < -1
   ·have HR : Hid (shBad l s = true) := Lib.hid (HTR.out (HBD.out.1 (Or.inr (Or.inr (Or.inr (Or.inr (Or.inl q4)))))))
    have d4 : decide (x2 < -1) = true := decide_eq_true q4
    clear HTR HBD
    as_aux_lemma =>
    go_wp2_with fail
    all_goals
     go_ret
     exact ⟨ret_eq (by rw [HR.out]; rfl), K5.out⟩
   have d4 : decide (x2 < -1) = false := decide_eq_false q4
   by_cases q5 : (NL : Int) ≤ x2
   ·have HR : Hid (shBad l s = true) := Lib.hid (HTR.out (HBD.out.1 (Or.inr (Or.inr (Or.inr (Or.inr (Or.inr q5)))))))
    have d5 : decide ((NL : Int) ≤ x2) = true := decide_eq_true q5
    clear HTR HBD
    as_aux_lemma =>
    go_wp2_with fail
    all_goals
     go_ret
     exact ⟨ret_eq (by rw [HR.out]; rfl), K5.out⟩
   have d5 : decide ((NL : Int) ≤ x2) = false := decide_eq_false q5
   have HNX : Hid (badL l s.1 (-1) s.2 = if x2 < 0 then badL l s.1 x0 (s.2.drop (k + 1)) else if (clsW (l.getD x2.toNat shp0).1).2 = 0 ∧ (clsW (l.getD x2.toNat shp0).1).1 = x1 then badL l s.1 x0 (s.2.drop (k + 1)) else true) := Lib.hid (HBD.out.2 (by omega))
   clear HBD
   by_cases q6 : x2 < 0
   ·have d6 : decide (x2 < 0) = true := decide_eq_true q6
    have HN2 : Hid (KB F0 W w4 ∧ badL l s.1 (-1) s.2 = badL l s.1 x0 (s.2.drop (k + 1))) := Lib.hid ⟨KW.out, by rw [HNX.out, if_pos q6]⟩
    clear HNX HTR
    go_wp2_with fail
    go_roundg (N - (k + 1))
    case measure => omega
    case rel => exact ⟨k + 1, x0, by omega, rfl, by go_num, rfl, HN2⟩
   ·have d6 : decide (x2 < 0) = false := decide_eq_false q6
    obtain ⟨j, rfl⟩ : ∃ j : Nat, x2 = (j : Int) := ⟨x2.toNat, by omega⟩
    have hjL : j < l.length := by rw [← HH.out.2.2.2.1]; omega
    obtain ⟨sb, so, sba, sbc, rfl, hsw, -, -⟩ := (HH.out.2.1.kbF K5.out) j hjL
    obtain ⟨sw, hsw'⟩ : ∃ x, x = (l.getD j shp0).1 := ⟨_, rfl⟩
    rw [← hsw'] at hsw
    have hjI : (j : Int) < (NL : Int) := by omega
    have hj0 : ¬ (j : Int) < 0 := by omega
    have CL := Lib.hid (lyClass_any sw w4)
    have HNX2 : Hid (badL l s.1 (-1) s.2 = if (clsW sw).2 = 0 ∧ (clsW sw).1 = x1 then badL l s.1 x0 (s.2.drop (k + 1)) else true) := Lib.hid (by rw [HNX.out, if_neg q6, Int.toNat_natCast, ← hsw'])
    obtain ⟨c1, hc1⟩ : ∃ x, x = (clsW sw).1 := ⟨_, rfl⟩
    obtain ⟨c2, hc2⟩ : ∃ x, x = (clsW sw).2 := ⟨_, rfl⟩
    rw [← hc1, ← hc2] at CL HNX2
    clear HNX hsw' hc1 hc2
    go_wp2_with fail
    refine CL.out.mono ?_
    rintro e w5 ⟨rfl, k5⟩
    have y1 := k5.cell (p := ⟨wr.heap.size, 1, none⟩) (fun x => x) y1
    have K6 := Lib.hid (And.intro (K5.out.trans k5) (KW.out.trans k5))
    clear k5 CL y0 y2 g4 l4 hsw
    by_cases r1 : c2 = 0
    ·by_cases r2 : c1 = x1
     ·have HN2 : Hid (KB F0 W w5 ∧ badL l s.1 (-1) s.2 = badL l s.1 x0 (s.2.drop (k + 1))) := Lib.hid ⟨K6.out.2, by rw [HNX2.out, if_pos ⟨r1, r2⟩]⟩
      subst r1
      subst r2
      clear HNX2 HTR
      go_wp2_with fail
      go_roundg (N - (k + 1))
      case measure => omega
      case rel => exact ⟨k + 1, x0, by omega, rfl, by go_num, rfl, HN2⟩
     ·have HR : Hid (shBad l s = true) := Lib.hid (HTR.out (by rw [HNX2.out, if_neg (fun h => r2 h.2)]))
      have r3 : (c1 == x1) = false := by simpa using r2
      subst r1
      clear HNX2 HTR
      as_aux_lemma =>
      go_wp2_with fail
      all_goals
       go_ret
       exact ⟨ret_eq (by rw [HR.out]; rfl), K6.out.1⟩
    ·have HR : Hid (shBad l s = true) := Lib.hid (HTR.out (by rw [HNX2.out, if_neg (fun h => r1 h.1)]))
     have r3 : (c2 == 0) = false := by simpa using r1
     clear HNX2 HTR
     as_aux_lemma =>
     go_wp2_with fail
     all_goals
      go_ret
      exact ⟨ret_eq (by rw [HR.out]; rfl), K6.out.1⟩
  ·obtain rfl : k = N := by omega
   have dk : decide ((k : Int) < (k : Int)) = false := decide_eq_false (by omega)
   have HBF : Hid (shBad l s = (decide (wd < 1) || (decide (16 < wd) || decide ((k : Int) = 0)))) := Lib.hid (by
    unfold shBad
    rw [hst.out.2, HH.out.2.2.2.2.1, List.drop_length]
    show (false || _) = _
    rw [Bool.false_or, HH.out.2.2.2.2.2.1]
    congr 2
    apply decide_eq_decide.2
    omega)
   have g1 : wr.cell? ⟨w0.heap.size, 1, none⟩ = some (.slice ba k bc) := blk_cell (hst.out.1.heap (fun x => x) HH.out.2.2.2.2.2.2.2) 1
   clear hst
   by_cases q1 : wd < 1
   ·have HR : Hid (shBad l s = true) := Lib.hid (by rw [HBF.out, decide_eq_true q1]; rfl)
    have d1 : decide (wd < 1) = true := decide_eq_true q1
    as_aux_lemma =>
    go_wp2_with fail
    go_ret
    exact ⟨ret_eq (by rw [HR.out]; rfl), K0.out⟩
   have d1 : decide (wd < 1) = false := decide_eq_false q1
   by_cases q2 : 16 < wd
   ·have HR : Hid (shBad l s = true) := Lib.hid (by rw [HBF.out, decide_eq_true q2]; simp)
    have d2 : decide (16 < wd) = true := decide_eq_true q2
    as_aux_lemma =>
    go_wp2_with fail
    go_ret
    exact ⟨ret_eq (by rw [HR.out]; rfl), K0.out⟩
   have d2 : decide (16 < wd) = false := decide_eq_false q2
   by_cases q3 : k = 0
   ·subst q3
    have HR : Hid (shBad l s = true) := Lib.hid (by rw [HBF.out]; simp)
    as_aux_lemma =>
    go_wp2_with fail
    go_ret
    exact ⟨ret_eq (by rw [HR.out]; rfl), K0.out⟩
   have HR : Hid (shBad l s = false) := Lib.hid (by rw [HBF.out, d1, d2, decide_eq_false (by omega)]; rfl)
   have d3 : ¬ (k : Int) = 0 := by omega
   have d4 : ((k : Int) == 0) = false := by rw [beq_eq_false_iff_ne]; exact d3
   as_aux_lemma =>
   go_wp2_with fail
   go_ret
   exact ⟨ret_eq (by rw [HR.out]; rfl), K0.out⟩
set_option maxRecDepth 100000 in
set_option maxHeartbeats 16000000 in
theorem lyMay_any (l : List ShpL) (hl : l.length ≤ 1000000) (hs : ∀ s ∈ l, s.2.length ≤ 1000000) (la : Option Addr) (lc : Nat) (w : World) (hL : ShsAt w la l) :
  Calls Tryz.prog 17 #[.slice la l.length lc] w fun e w' => e = .returned (.bool (mayS l)) ∧ KB F0 w w' := by
 obtain ⟨w0, rfl⟩ : ∃ w0, w0 = w := ⟨_, rfl⟩
 obtain ⟨NL, hNL⟩ : ∃ n, n = l.length := ⟨_, rfl⟩
 obtain ⟨W, hW⟩ : ∃ W, W = w0.alloc (.cells #[.slice la l.length lc] 27) := ⟨_, rfl⟩
 have kW : KB F0 w0 W := by rw [hW]; exact (KB.refl _ _).alloc _
 have bW : W.heap[w0.heap.size]? = some (.cells #[.slice la l.length lc] 27 (0, 0)) := by rw [hW]; exact alloc_new _ _
 have l0 : W.cell? ⟨w0.heap.size, 0, none⟩ = some (.slice la NL lc) := by rw [hNL]; exact blk_cell bW 0
 have CT := Lib.hid (ctShps_any 43 #[.pointer (some ⟨w0.heap.size, 0, none⟩)] (lyEn (fn := Tryz.f43) Tryz.func43 (by decide) (fun e => by cases e)) (shBad l) l hl la lc W (fun s ba bc V hsl hV hB => lyMay1_any l hl la lc w0.heap.size s (hs s hsl) ba bc V (blk_cell (hV.heap (fun x => x) bW) 0) (hL.kbF (kW.trans hV)) hB) (hL.kbF kW))
 have HM : Hid (mayS l = (!decide (4096 < NL) && !l.any (shBad l))) := Lib.hid (by rw [hNL]; rfl)
 obtain ⟨an, han⟩ : ∃ b, b = l.any (shBad l) := ⟨_, rfl⟩
 rw [← han, ← hNL] at CT
 rw [← han] at HM
 rw [← hNL] at hW ⊢
 have HW := Lib.hid hW
 have HK := Lib.hid kW
 clear hW kW bW han hNL hL hs hl
 go_enter Tryz.func17, Tryz.ntmps17
 go_upto_region 1 with fail
 rw [← HW.out]
 by_cases q : 4096 < NL
 ·have d1 : decide ((4096 : Int) < (NL : Int)) = true := decide_eq_true (by omega)
  have d2 : decide (4096 < NL) = true := decide_eq_true q
  have HR : Hid (mayS l = false) := Lib.hid (by rw [HM.out, d2]; rfl)
  go_wp2_with fail
  go_ret
  exact ⟨ret_eq (by rw [HR.out]; rfl), HK.out⟩
 ·have d1 : decide ((4096 : Int) < (NL : Int)) = false := decide_eq_false (by omega)
  have d2 : decide (4096 < NL) = false := decide_eq_false q
  have HR : Hid (mayS l = !an) := Lib.hid (by rw [HM.out, d2]; rfl)
  go_wp2_with fail
  refine CT.out.mono ?_
  rintro e w1 ⟨rfl, k1⟩
  have K1 := Lib.hid (HK.out.trans k1)
  clear k1 CT l0
  go_wp2_with fail
  go_ret
  exact ⟨ret_eq (by rw [HR.out]; rfl), K1.out⟩
end Go.Proofs.YtaeppaaolkcbbaaGreatDoor

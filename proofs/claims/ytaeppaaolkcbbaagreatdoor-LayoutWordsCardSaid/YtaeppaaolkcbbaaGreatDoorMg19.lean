/- loanwordref23.MayShapes. LayoutWords: the walk. -/
import Derived.Test.YtaeppaaolkcbbaaGreatDoorMg16
import Derived.Test.YtaeppaaolkcbbaaGreatDoorMg18
import Derived.BigQuiet
import Derived.Deep.CutRange
import Derived.Test.YtaeppaaolkcbbaaGreatDoorMg09
namespace Go.Proofs.YtaeppaaolkcbbaaGreatDoor
open Go.RowKit

theorem badL_len (l : List ShpL) (wd : Int) : ∀ (bs : List (Int × Int × Int)) (last : Int), badL l wd last bs = false → bs ≠ [] → last + bs.length < wd := by
 intro bs
 induction bs with
 | nil => intro last _ h; exact absurd rfl h
 | cons x r ih =>
  intro last h _
  obtain ⟨x0, x1, x2⟩ := x
  rw [badL_cons] at h
  by_cases hc : x0 ≤ last ∨ wd ≤ x0 ∨ x1 < 0 ∨ 5 ≤ x1 ∨ x2 < -1 ∨ (l.length : Int) ≤ x2
  ·rw [if_pos hc] at h; cases h
  ·rw [if_neg hc] at h
   have hr : badL l wd x0 r = false := by
    split at h
    ·exact h
    ·split at h
     ·exact h
     ·cases h
   rw [List.length_cons]
   by_cases hn : r = []
   ·subst hn; simp; omega
   ·have := ih x0 hr hn; omega
theorem shBad_len {l : List ShpL} {s : ShpL} (h : 16 < s.2.length) : shBad l s = true := by
 unfold shBad
 by_cases hw : 16 < s.1
 ·simp [hw]
 ·cases hb : badL l s.1 (-1) s.2 with
  | true => rfl
  | false =>
   have := badL_len l s.1 s.2 (-1) hb (fun e => by rw [e] at h; simp at h)
   omega
theorem mayS_no {l : List ShpL} {i : Nat} (hi : i < l.length) (h : shBad l (l.getD i shp0) = true) : mayS l = false := by
 unfold mayS
 rw [any_getD (d := shp0) hi h]; simp
theorem mayS_yes {l : List ShpL} (h4 : ¬ 4096 < l.length) (h : ∀ i, i < l.length → shBad l (l.getD i shp0) = false) : mayS l = true := by
 unfold mayS
 rw [any_none (d := shp0) h, decide_eq_false h4]; rfl
def lastA (bs : List (Int × Int × Int)) (k : Nat) : Int := if k = 0 then -1 else (bs.getD (k - 1) (0, 0, 0)).1
set_option maxRecDepth 100000 in
set_option maxHeartbeats 64000000 in
theorem rlMay_any (l : List ShpL) (hl : l.length ≤ 1000000) (hs : ∀ s ∈ l, s.2.length ≤ 1000000) (la : Option Addr) (lc : Nat) (w : World) (hL : ShsAt w la l) :
  Calls Tryz.prog 18 #[.slice la l.length lc] w fun e w' => e = .returned (.bool (mayS l)) ∧ KB F0 w w' := by
 obtain ⟨w0, rfl⟩ : ∃ w0, w0 = w := ⟨_, rfl⟩
 obtain ⟨NL, hNL⟩ : ∃ n, n = l.length := ⟨_, rfl⟩
 have HH := Lib.hid (And.intro hL (And.intro hNL hs))
 have hNLb : NL ≤ 1000000 := by rw [hNL]; exact hl
 rw [← hNL]
 by_cases h4 : 4096 < NL
 ·have HR : Hid (mayS l = false) := Lib.hid (by unfold mayS; rw [← hNL, decide_eq_true h4]; rfl)
  have g1 : (4096 : Int) < (NL : Int) := by omega
  have g2 : decide ((4096 : Int) < (NL : Int)) = true := decide_eq_true g1
  have g3 : decide (4096 < NL) = true := decide_eq_true h4
  clear hL hNL hs hl h4
  go_enter Tryz.func18, Tryz.ntmps18
  go_wp2_with fail
  go_ret
  exact ⟨ret_eq (congrArg Value.bool HR.out), KB.refl _ _⟩
 have g1 : ¬ (4096 : Int) < (NL : Int) := by omega
 have g2 : decide ((4096 : Int) < (NL : Int)) = false := decide_eq_false g1
 have g3 : decide (4096 < NL) = false := decide_eq_false h4
 have H4 : Hid (¬ 4096 < l.length) := Lib.hid (by rw [← hNL]; exact h4)
 clear hL hNL hs hl h4
 go_enter Tryz.func18, Tryz.ntmps18
 go_wp2_with fail
 clear g1 g2 g3
 go_loopg [3] NL (fun gg iv wr => ∃ i : Nat, i ≤ NL ∧ gg = NL - i ∧ iv = .int .i64 (i : Nat) ∧ Hid (KB F0 w0 wr ∧ ∀ j, j < i → shBad l (l.getD j shp0) = false))
 case atStart => exact ⟨0, by omega, by omega, rfl, Lib.hid ⟨KB.refl _ _, fun j hj => by omega⟩⟩
 case round =>
  obtain ⟨i, hi, rfl, rfl, hst⟩ := hrel
  obtain ⟨wo, rfl⟩ : ∃ x : World, x = wr := ⟨_, rfl⟩
  by_cases hlt : i < NL
  ·have hiI : (i : Int) < (NL : Int) := by omega
   have dI : decide ((i : Int) < (NL : Int)) = true := decide_eq_true hiI
   have hiL : i < l.length := by rw [← HH.out.2.1]; exact hlt
   obtain ⟨sb, so, ba, bc, rfl, c0, c1, hbx⟩ := (HH.out.1.kbF hst.out.1) i hiL
   obtain ⟨s, hs⟩ : ∃ s, s = l.getD i shp0 := ⟨_, rfl⟩
   rw [← hs] at c0 c1 hbx
   obtain ⟨N, hN⟩ : ∃ n, n = s.2.length := ⟨_, rfl⟩
   obtain ⟨wd, hwd⟩ : ∃ x, x = s.1 := ⟨_, rfl⟩
   rw [← hN] at c1
   rw [← hwd] at c0
   have hsm : s ∈ l := by rw [hs, List.getD_eq_getElem?_getD, List.getElem?_eq_getElem hiL]; exact List.getElem_mem hiL
   have hNb : N ≤ 1000000 := by rw [hN]; exact HH.out.2.2 s hsm
   have HNO : Hid (shBad l s = true → mayS l = false) := Lib.hid (fun h => mayS_no hiL (by rw [← hs]; exact h))
   have HNX : Hid (shBad l s = false → ∀ w', KB F0 wo w' → KB F0 w0 w' ∧ ∀ j, j < i + 1 → shBad l (l.getD j shp0) = false) := Lib.hid (fun h w' hw => ⟨hst.out.1.trans hw, fun j hj => by
    rcases Nat.lt_or_eq_of_le (Nat.lt_succ_iff.1 hj) with h1 | rfl
    ·exact hst.out.2 j h1
    ·rw [← hs]; exact h⟩)
   have HS := Lib.hid (And.intro hN (And.intro hwd hbx))
   have HW0 := Lib.hid hst.out.1
   obtain ⟨W, hW⟩ : ∃ W, W = wo.alloc (.cells #[.int .i64 wd, .slice ba N bc] 32) := ⟨_, rfl⟩
   have kW : KB F0 wo W := by rw [hW]; exact (KB.refl _ _).alloc _
   have bW : W.heap[wo.heap.size]? = some (.cells #[.int .i64 wd, .slice ba N bc] 32 (0, 0)) := by rw [hW]; exact alloc_new _ _
   have s0 : W.cell? ⟨wo.heap.size, 0, none⟩ = some (.int .i64 wd) := blk_cell bW 0
   have s1 : W.cell? ⟨wo.heap.size, 1, none⟩ = some (.slice ba N bc) := blk_cell bW 1
   have HB := Lib.hid (And.intro kW bW)
   have HW := Lib.hid hW
   clear hst hbx hs hN hwd hsm kW bW hW hiL
   go_upto_region 7 with fail
   rw [← HW.out]
   clear c0 c1
   by_cases q1 : wd < 1
   ·have HR := Lib.hid (HNO.out (by unfold shBad; rw [← HS.out.2.1, decide_eq_true q1]; simp))
    have d1 : decide (wd < 1) = true := decide_eq_true q1
    as_aux_lemma =>
    go_wp2_with fail
    go_ret
    exact ⟨ret_eq (congrArg Value.bool HR.out), HW0.out.trans HB.out.1⟩
   have d1 : decide (wd < 1) = false := decide_eq_false q1
   by_cases q2 : 16 < wd
   ·have HR := Lib.hid (HNO.out (by unfold shBad; rw [← HS.out.2.1, decide_eq_true q2]; simp))
    have d2 : decide (16 < wd) = true := decide_eq_true q2
    as_aux_lemma =>
    go_wp2_with fail
    go_ret
    exact ⟨ret_eq (congrArg Value.bool HR.out), HW0.out.trans HB.out.1⟩
   have d2 : decide (16 < wd) = false := decide_eq_false q2
   by_cases q3 : N < 1
   ·have HR := Lib.hid (HNO.out (by unfold shBad; rw [← HS.out.1, decide_eq_true (show N = 0 by omega)]; simp))
    have d3 : decide ((N : Int) < 1) = true := decide_eq_true (by omega)
    obtain rfl : N = 0 := by omega
    as_aux_lemma =>
    go_wp2_with fail
    go_ret
    exact ⟨ret_eq (congrArg Value.bool HR.out), HW0.out.trans HB.out.1⟩
   have d3 : decide ((N : Int) < 1) = false := decide_eq_false (by omega)
   have d3n : decide (N < 1) = false := decide_eq_false q3
   have e3 : ¬ ((N : Int) < 1) := by omega
   by_cases q4 : 16 < N
   ·have HR := Lib.hid (HNO.out (shBad_len (by rw [← HS.out.1]; exact q4)))
    have d4 : decide ((16 : Int) < (N : Int)) = true := decide_eq_true (by omega)
    have d4n : decide (16 < N) = true := decide_eq_true q4
    have e4 : (16 : Int) < (N : Int) := by omega
    as_aux_lemma =>
    go_wp2_with fail
    go_ret
    exact ⟨ret_eq (congrArg Value.bool HR.out), HW0.out.trans HB.out.1⟩
   have d4 : decide ((16 : Int) < (N : Int)) = false := decide_eq_false (by omega)
   have d4n : decide (16 < N) = false := decide_eq_false q4
   have e4 : ¬ ((16 : Int) < (N : Int)) := by omega
   have HQ : Hid (badL l s.1 (-1) s.2 = false → shBad l s = false) := Lib.hid (fun h => by
    unfold shBad
    rw [h, ← HS.out.2.1, ← HS.out.1, decide_eq_false q1, decide_eq_false q2, decide_eq_false (show ¬ N = 0 by omega)]; rfl)
   have HT : Hid (badL l s.1 (-1) s.2 = true → mayS l = false) := Lib.hid (fun h => HNO.out (by unfold shBad; rw [h]; rfl))
   go_upto_region 10 with fail
   clear s0 s1 d1 d2 d3 d3n e3 d4 d4n e4 q1 q2 q3 HNO
   obtain ⟨B4, hB4⟩ : ∃ b, b = wo.heap.size := ⟨_, rfl⟩
   rw [← hB4] at HB ⊢
   clear hB4
   go_loopg [5] N (fun gg kv wr => ∃ k : Nat, k ≤ N ∧ gg = N - k ∧ kv = .int .i64 (k : Nat) ∧ Hid (KB F0 W wr ∧ badL l s.1 (-1) s.2 = badL l s.1 (lastA s.2 k) (s.2.drop k) ∧ (0 < k → 0 ≤ lastA s.2 k)))
   case atStart => exact ⟨0, by omega, by omega, rfl, Lib.hid ⟨KB.refl _ _, rfl, fun h => by omega⟩⟩
   case round =>
    obtain ⟨k, hk, rfl, rfl, hst⟩ := hrel
    obtain ⟨wi, rfl⟩ : ∃ x : World, x = wr := ⟨_, rfl⟩
    have K0 := Lib.hid (HW0.out.trans (HB.out.1.trans hst.out.1))
    have bW := hst.out.1.heap (fun x => x) HB.out.2
    have s0 : wi.cell? ⟨B4, 0, none⟩ = some (.int .i64 wd) := blk_cell bW 0
    have s1 : wi.cell? ⟨B4, 1, none⟩ = some (.slice ba N bc) := blk_cell bW 1
    by_cases hlt2 : k < N
    ·as_aux_lemma =>
     have hkI : (k : Int) < (N : Int) := by omega
     have dk : decide ((k : Int) < (N : Int)) = true := decide_eq_true hkI
     have hkL : k < s.2.length := by rw [← HS.out.1]; exact hlt2
     have hBX := HS.out.2.2.kbF (HB.out.1.trans hst.out.1)
     obtain ⟨bb, bo, rfl, b0, b1, b2⟩ := hBX k hkL
     obtain ⟨x0, x1, x2, hx⟩ : ∃ x0 x1 x2, s.2[k] = (x0, x1, x2) := ⟨_, _, _, rfl⟩
     rw [hx] at b0 b1 b2
     have hdr : s.2.drop k = (x0, x1, x2) :: s.2.drop (k + 1) := by rw [← hx]; exact List.drop_eq_getElem_cons hkL
     obtain ⟨last, hlast⟩ : ∃ z, z = lastA s.2 k := ⟨_, rfl⟩
     have hnext : lastA s.2 (k + 1) = x0 := by
      unfold lastA
      rw [if_neg (by omega), Nat.add_sub_cancel, List.getD_eq_getElem?_getD, List.getElem?_eq_getElem hkL, hx]; rfl
     obtain ⟨z, hz⟩ : ∃ z, decide ((0 : Int) < (k : Int)) = z := ⟨_, rfl⟩
     obtain ⟨kp, hkp⟩ : ∃ q, q = k - 1 := ⟨_, rfl⟩
     have HLB : Hid ((z = false → last = -1) ∧ (z = true → 0 ≤ last)) := Lib.hid ⟨fun e => by
      rw [← hz] at e
      have hk0 : k = 0 := by have := of_decide_eq_false e; omega
      rw [hlast]; unfold lastA; rw [if_pos hk0], fun e => by
      rw [← hz] at e
      rw [hlast]; exact hst.out.2.2 (by have := of_decide_eq_true e; omega)⟩
     obtain ⟨w4, h4⟩ : ∃ w4, w4 = wi.alloc (.cells #[.int .i64 x0, .int .i64 x1, .int .i64 x2] 61) := ⟨_, rfl⟩
     have k4 : KB F0 wi w4 := by rw [h4]; exact (KB.refl _ _).alloc _
     have e4 : w4.heap[wi.heap.size]? = some (.cells #[.int .i64 x0, .int .i64 x1, .int .i64 x2] 61 (0, 0)) := by rw [h4]; exact alloc_new _ _
     have y0 : w4.cell? ⟨wi.heap.size, 0, none⟩ = some (.int .i64 x0) := blk_cell e4 0
     have y1 : w4.cell? ⟨wi.heap.size, 1, none⟩ = some (.int .i64 x1) := blk_cell e4 1
     have y2 : w4.cell? ⟨wi.heap.size, 2, none⟩ = some (.int .i64 x2) := blk_cell e4 2
     have bW4 := k4.heap (fun x => x) bW
     have s04 : w4.cell? ⟨B4, 0, none⟩ = some (.int .i64 wd) := blk_cell bW4 0
     have s14 : w4.cell? ⟨B4, 1, none⟩ = some (.slice (some ⟨bb, bo, none⟩) N bc) := blk_cell bW4 1
     have HP : Hid (z = true → w4.cell? ⟨bb, bo + kp * 3, none⟩ = some (.int .i64 last) ∧ IntKind.i64.wrap ((k : Int) - 1) = (kp : Int) ∧ (kp : Int) < (N : Int)) := Lib.hid (fun e => by
      rw [← hz] at e
      have hk0 : 0 < k := by have := of_decide_eq_true e; omega
      have hpL : kp < s.2.length := by omega
      obtain ⟨bb', bo', e1, f0, -⟩ := hBX kp hpL
      cases e1
      have hl2 : last = s.2[kp].1 := by
       rw [hlast]; unfold lastA
       rw [if_neg (by omega), ← hkp, List.getD_eq_getElem?_getD, List.getElem?_eq_getElem hpL]; rfl
      refine ⟨by rw [hl2]; exact k4.cell (p := ⟨bb, bo + kp * 3, none⟩) (fun x => x) f0, by rw [w64 (by omega) (by omega)]; omega, by omega⟩)
     have HBD : Hid (((x0 ≤ last ∨ wd ≤ x0 ∨ x1 < 0 ∨ 5 ≤ x1 ∨ x2 < -1 ∨ (NL : Int) ≤ x2) → badL l s.1 (-1) s.2 = true) ∧ (¬ (x0 ≤ last ∨ wd ≤ x0 ∨ x1 < 0 ∨ 5 ≤ x1 ∨ x2 < -1 ∨ (NL : Int) ≤ x2) → badL l s.1 (-1) s.2 = if x2 < 0 then badL l s.1 x0 (s.2.drop (k + 1)) else if (clsW (l.getD x2.toNat shp0).1).2 = 0 ∧ (clsW (l.getD x2.toNat shp0).1).1 = x1 then badL l s.1 x0 (s.2.drop (k + 1)) else true)) := Lib.hid (by
      rw [hst.out.2.1, hdr, badL_cons, ← HH.out.2.1, ← HS.out.2.1, ← hlast]
      exact ⟨fun h => if_pos h, fun h => if_neg h⟩)
     have K5 := Lib.hid (K0.out.trans k4)
     have KW := Lib.hid (hst.out.1.trans k4)
     have HNEXT := Lib.hid hnext
     have H4' := Lib.hid h4
     clear hx hdr hst hBX hlast hnext hkp h4 k4 e4 bW bW4 hkL
     go_upto_region 13 with fail
     rw [← H4'.out]
     clear b0 b1 b2 s0 s1
     have HF : Hid (mayS l = false → Calls Tryz.prog 18 #[] w0 (fun _ _ => True) → True) := Lib.hid (fun _ _ => trivial)
     clear HF
     by_cases q0 : x0 < 0
     ·have d0 : decide (x0 < 0) = true := decide_eq_true q0
      have HR := Lib.hid (HT.out (HBD.out.1 (Or.inl (by cases z; have := HLB.out.1 rfl; omega; have := HLB.out.2 rfl; omega))))
      clear HBD HP HLB
      as_aux_lemma =>
      go_quiet (fail)
      go_wp2_with fail
      go_ret
      exact ⟨ret_eq (congrArg Value.bool HR.out), by first | exact K5.out | exact K5.out.drewN _⟩
     have d0 : decide (x0 < 0) = false := decide_eq_false q0
     by_cases q1 : wd ≤ x0
     ·have d1 : decide (wd ≤ x0) = true := decide_eq_true q1
      have HR := Lib.hid (HT.out (HBD.out.1 (Or.inr (Or.inl q1))))
      clear HBD HP HLB
      as_aux_lemma =>
      go_quiet (fail)
      go_wp2_with fail
      go_ret
      exact ⟨ret_eq (congrArg Value.bool HR.out), by first | exact K5.out | exact K5.out.drewN _⟩
     have d1 : decide (wd ≤ x0) = false := decide_eq_false q1
     by_cases q2 : x0 ≤ last
     ·have d2 : decide (x0 ≤ last) = true := decide_eq_true q2
      have HR := Lib.hid (HT.out (HBD.out.1 (Or.inl q2)))
      cases z with
      | false => exact absurd (HLB.out.1 rfl) (by omega)
      | true =>
       obtain ⟨p0, hwr, hpI⟩ := HP.out rfl
       have hzI : (0 : Int) < (k : Int) := of_decide_eq_true hz
       have hzn : 0 < k := by omega
       have hznd : decide (0 < k) = true := decide_eq_true hzn
       clear HBD HP HLB
       as_aux_lemma =>
       go_quiet (fail)
       go_wp2_with fail
       go_ret
       exact ⟨ret_eq (congrArg Value.bool HR.out), by first | exact K5.out | exact K5.out.drewN _⟩
     have d2 : decide (x0 ≤ last) = false := decide_eq_false q2
     by_cases q3 : x1 < 0
     ·have d3 : decide (x1 < 0) = true := decide_eq_true q3
      have HR := Lib.hid (HT.out (HBD.out.1 (Or.inr (Or.inr (Or.inl q3)))))
      clear HBD HLB
      cases z with
      | false =>
       clear HP
       have hznd : decide (0 < k) = false := decide_eq_false (by have := of_decide_eq_false hz; omega)
       have hzI : ¬ (0 : Int) < (k : Int) := of_decide_eq_false hz
       as_aux_lemma =>
       go_quiet (fail)
       go_wp2_with fail
       go_ret
       exact ⟨ret_eq (congrArg Value.bool HR.out), by first | exact K5.out | exact K5.out.drewN _⟩
      | true =>
       obtain ⟨p0, hwr, hpI⟩ := HP.out rfl
       have hzI : (0 : Int) < (k : Int) := of_decide_eq_true hz
       have hzn : 0 < k := by omega
       have hznd : decide (0 < k) = true := decide_eq_true hzn
       clear HP
       as_aux_lemma =>
       go_quiet (fail)
       go_wp2_with fail
       go_ret
       exact ⟨ret_eq (congrArg Value.bool HR.out), by first | exact K5.out | exact K5.out.drewN _⟩
     have d3 : decide (x1 < 0) = false := decide_eq_false q3
     by_cases q4 : 5 ≤ x1
     ·have d4 : decide (5 ≤ x1) = true := decide_eq_true q4
      have HR := Lib.hid (HT.out (HBD.out.1 (Or.inr (Or.inr (Or.inr (Or.inl q4))))))
      clear HBD HLB
      cases z with
      | false =>
       clear HP
       have hznd : decide (0 < k) = false := decide_eq_false (by have := of_decide_eq_false hz; omega)
       have hzI : ¬ (0 : Int) < (k : Int) := of_decide_eq_false hz
       as_aux_lemma =>
       go_quiet (fail)
       go_wp2_with fail
       go_ret
       exact ⟨ret_eq (congrArg Value.bool HR.out), by first | exact K5.out | exact K5.out.drewN _⟩
      | true =>
       obtain ⟨p0, hwr, hpI⟩ := HP.out rfl
       have hzI : (0 : Int) < (k : Int) := of_decide_eq_true hz
       have hzn : 0 < k := by omega
       have hznd : decide (0 < k) = true := decide_eq_true hzn
       clear HP
       as_aux_lemma =>
       go_quiet (fail)
       go_wp2_with fail
       go_ret
       exact ⟨ret_eq (congrArg Value.bool HR.out), by first | exact K5.out | exact K5.out.drewN _⟩
     have d4 : decide (5 ≤ x1) = false := decide_eq_false q4
     by_cases q5 : x2 < -1
     ·have d5 : decide (x2 < -1) = true := decide_eq_true q5
      have HR := Lib.hid (HT.out (HBD.out.1 (Or.inr (Or.inr (Or.inr (Or.inr (Or.inl q5)))))))
      clear HBD HLB
      cases z with
      | false =>
       clear HP
       have hznd : decide (0 < k) = false := decide_eq_false (by have := of_decide_eq_false hz; omega)
       have hzI : ¬ (0 : Int) < (k : Int) := of_decide_eq_false hz
       as_aux_lemma =>
       go_quiet (fail)
       go_wp2_with fail
       go_ret
       exact ⟨ret_eq (congrArg Value.bool HR.out), by first | exact K5.out | exact K5.out.drewN _⟩
      | true =>
       obtain ⟨p0, hwr, hpI⟩ := HP.out rfl
       have hzI : (0 : Int) < (k : Int) := of_decide_eq_true hz
       have hzn : 0 < k := by omega
       have hznd : decide (0 < k) = true := decide_eq_true hzn
       clear HP
       as_aux_lemma =>
       go_quiet (fail)
       go_wp2_with fail
       go_ret
       exact ⟨ret_eq (congrArg Value.bool HR.out), by first | exact K5.out | exact K5.out.drewN _⟩
     have d5 : decide (x2 < -1) = false := decide_eq_false q5
     by_cases q6 : (NL : Int) ≤ x2
     ·have d6 : decide ((NL : Int) ≤ x2) = true := decide_eq_true q6
      have HR := Lib.hid (HT.out (HBD.out.1 (Or.inr (Or.inr (Or.inr (Or.inr (Or.inr q6)))))))
      clear HBD HLB
      cases z with
      | false =>
       clear HP
       have hznd : decide (0 < k) = false := decide_eq_false (by have := of_decide_eq_false hz; omega)
       have hzI : ¬ (0 : Int) < (k : Int) := of_decide_eq_false hz
       as_aux_lemma =>
       go_quiet (fail)
       go_wp2_with fail
       go_ret
       exact ⟨ret_eq (congrArg Value.bool HR.out), by first | exact K5.out | exact K5.out.drewN _⟩
      | true =>
       obtain ⟨p0, hwr, hpI⟩ := HP.out rfl
       have hzI : (0 : Int) < (k : Int) := of_decide_eq_true hz
       have hzn : 0 < k := by omega
       have hznd : decide (0 < k) = true := decide_eq_true hzn
       clear HP
       as_aux_lemma =>
       go_quiet (fail)
       go_wp2_with fail
       go_ret
       exact ⟨ret_eq (congrArg Value.bool HR.out), by first | exact K5.out | exact K5.out.drewN _⟩
     have d6 : decide ((NL : Int) ≤ x2) = false := decide_eq_false q6
     have HNB : Hid (badL l s.1 (-1) s.2 = if x2 < 0 then badL l s.1 x0 (s.2.drop (k + 1)) else if (clsW (l.getD x2.toNat shp0).1).2 = 0 ∧ (clsW (l.getD x2.toNat shp0).1).1 = x1 then badL l s.1 x0 (s.2.drop (k + 1)) else true) := Lib.hid (HBD.out.2 (by omega))
     have HX0 : Hid (0 ≤ x0) := Lib.hid (by omega)
     clear HBD HLB q0 q1 q2 q3
     go_cut [101] from 42 to 122 (fun s wx => s = .bool false ∧ ∃ nq, wx = w4.drewN nq)
     case first =>
      cases z with
      | false =>
       clear HP
       have hznd : decide (0 < k) = false := decide_eq_false (by have := of_decide_eq_false hz; omega)
       have hzI : ¬ (0 : Int) < (k : Int) := of_decide_eq_false hz
       as_aux_lemma =>
       go_quiet (fail)
       go_wp2_with fail
       go_meet
       exact ⟨rfl, _, rfl⟩
      | true =>
       obtain ⟨p0, hwr, hpI⟩ := HP.out rfl
       have hzI : (0 : Int) < (k : Int) := of_decide_eq_true hz
       have hzn : 0 < k := by omega
       have hznd : decide (0 < k) = true := decide_eq_true hzn
       clear HP
       as_aux_lemma =>
       go_quiet (fail)
       go_wp2_with fail
       go_meet
       exact ⟨rfl, _, rfl⟩
     case rest =>
     obtain ⟨rfl, nq, rfl⟩ := hcut
     obtain ⟨w6, h6⟩ : ∃ x, x = w4.drewN nq := ⟨_, rfl⟩
     have k6 : KB F0 w4 w6 := by rw [h6]; exact (KB.refl _ _).drewN _
     have y16 := k6.cell (p := ⟨wi.heap.size, 1, none⟩) (fun x => x) y1
     have y26 := k6.cell (p := ⟨wi.heap.size, 2, none⟩) (fun x => x) y2
     have K6 := Lib.hid (And.intro (K5.out.trans k6) (KW.out.trans k6))
     rw [← h6]
     clear h6 k6 y0 y1 y2 s04 s14 d0 d1 d2 d3 d4 d5 d6 HP
     have HST : Hid (badL l s.1 (-1) s.2 = badL l s.1 x0 (s.2.drop (k + 1)) → ∀ w', KB F0 w6 w' → (KB F0 W w' ∧ badL l s.1 (-1) s.2 = badL l s.1 (lastA s.2 (k + 1)) (s.2.drop (k + 1)) ∧ (0 < k + 1 → 0 ≤ lastA s.2 (k + 1)))) := Lib.hid (fun h w' hw => ⟨K6.out.2.trans hw, by rw [HNEXT.out]; exact h, fun _ => by rw [HNEXT.out]; exact HX0.out⟩)
     clear HNEXT HX0
     by_cases q7 : x2 < 0
     ·have d7 : decide ((0 : Int) ≤ x2) = false := decide_eq_false (by omega)
      have HN2 := Lib.hid (HST.out (by rw [HNB.out, if_pos q7]) w6 (KB.refl _ _))
      clear HNB HST
      as_aux_lemma =>
      go_wp2_with fail
      go_roundg (N - (k + 1))
      case measure => omega
      case rel => exact ⟨k + 1, by omega, rfl, by go_num, HN2⟩
     ·have d7 : decide ((0 : Int) ≤ x2) = true := decide_eq_true (by omega)
      obtain ⟨j, rfl⟩ : ∃ j : Nat, x2 = (j : Int) := ⟨x2.toNat, by omega⟩
      have hjL : j < l.length := by rw [← HH.out.2.1]; omega
      obtain ⟨tb, to_, tba, tbc, e9, hsw, -, -⟩ := (HH.out.1.kbF K6.out.1) j hjL
      cases e9
      obtain ⟨sw, hsw'⟩ : ∃ x, x = (l.getD j shp0).1 := ⟨_, rfl⟩
      rw [← hsw'] at hsw
      have hjI : (j : Int) < (NL : Int) := by omega
      have CL := Lib.hid (rlClass_any sw w6)
      have HNX2 : Hid (badL l s.1 (-1) s.2 = if (clsW sw).2 = 0 ∧ (clsW sw).1 = x1 then badL l s.1 x0 (s.2.drop (k + 1)) else true) := Lib.hid (by rw [HNB.out, if_neg q7, Int.toNat_natCast, ← hsw'])
      obtain ⟨c1, hc1⟩ : ∃ x, x = (clsW sw).1 := ⟨_, rfl⟩
      obtain ⟨c2, hc2⟩ : ∃ x, x = (clsW sw).2 := ⟨_, rfl⟩
      rw [← hc1, ← hc2] at CL HNX2
      clear HNB hsw' hc1 hc2
      go_wp2_with fail
      refine CL.out.mono ?_
      rintro e w5 ⟨rfl, k5⟩
      have y1 := k5.cell (p := ⟨wi.heap.size, 1, none⟩) (fun x => x) y16
      have K7 := Lib.hid k5
      clear k5 CL y16 y26 hsw
      by_cases r1 : c2 = 0
      ·have r1b : (c2 != 0) = false := by simp [r1]
       by_cases r2 : c1 = x1
       ·have r2b : (c1 != x1) = false := by simp [r2]
        have HN2 := Lib.hid (HST.out (by rw [HNX2.out, if_pos ⟨r1, r2⟩]) w5 K7.out)
        clear HNX2 HST r1 r2
        go_wp2_with fail
        go_roundg (N - (k + 1))
        case measure => omega
        case rel => exact ⟨k + 1, by omega, rfl, by go_num, HN2⟩
       ·have r2b : (c1 != x1) = true := by simp [r2]
        have HR := Lib.hid (HT.out (by rw [HNX2.out, if_neg (fun h => r2 h.2)]))
        have K8 := Lib.hid (K6.out.1.trans K7.out)
        clear HNX2 HST r1 r2
        go_wp2_with fail
        go_ret
        exact ⟨ret_eq (congrArg Value.bool HR.out), K8.out⟩
      ·have r1b : (c2 != 0) = true := by simp [r1]
       have HR := Lib.hid (HT.out (by rw [HNX2.out, if_neg (fun h => r1 h.1)]))
       have K8 := Lib.hid (K6.out.1.trans K7.out)
       clear HNX2 HST r1
       go_wp2_with fail
       go_ret
       exact ⟨ret_eq (congrArg Value.bool HR.out), K8.out⟩
    ·obtain rfl : k = N := by omega
     have dk : decide ((k : Int) < (k : Int)) = false := decide_eq_false (by omega)
     have HN := Lib.hid (HNX.out (HQ.out (by rw [hst.out.2.1, HS.out.1, List.drop_length]; rfl)) wi (HB.out.1.trans hst.out.1))
     clear hst bW
     go_wp2_with fail
     go_roundg (NL - (i + 1))
     case measure => omega
     case rel => exact ⟨i + 1, by omega, rfl, by go_num, HN⟩
  ·obtain rfl : i = NL := by omega
   have dI : decide ((i : Int) < (i : Int)) = false := decide_eq_false (by omega)
   have HR : Hid (mayS l = true) := Lib.hid (mayS_yes H4.out (fun j hj => hst.out.2 j (by rw [HH.out.2.1]; exact hj)))
   have KK := Lib.hid hst.out.1
   clear hst
   go_wp2_with fail
   go_ret
   exact ⟨ret_eq (congrArg Value.bool HR.out), KK.out⟩

open Classical in
noncomputable def fieldV (S : List (List Ty)) (n k : Int) : Int × Int := if FieldOk S n k then (((wsum S 34 n.toNat k.toNat : Nat) : Int), 0) else (0, 2)
theorem lyFEnd_v {S : List (List Ty)} {n k : Int} {w : World} {e : Ending} {w' : World} (h : lyFEnd S n k w e w') : e = .returned (.tuple #[.int .i64 (fieldV S n k).1, .int .i64 (fieldV S n k).2]) ∧ KB F0 w w' := by
 unfold fieldV
 rcases h with ⟨h1, h2, h3⟩ | ⟨h1, h2, h3⟩
 ·rw [if_pos h1]; exact ⟨h2, h3⟩
 ·rw [if_neg h1]; exact ⟨h2, h3⟩
open Classical in
noncomputable def boxesV (S : List (List Ty)) (t : Ty) : List Int × Int := if MayT S t then (bxN S t, 0) else ([], 2)
theorem boxesEnd_v {S : List (List Ty)} {t : Ty} {w : World} {e : Ending} {w' : World} (h : BoxesEnd S t w e w') : ∃ a c, e = .returned (.tuple #[.slice a (boxesV S t).1.length c, .int .i64 (boxesV S t).2]) ∧ w'.ownsRow w.heap.size 3 1 (.slice a (boxesV S t).1.length c) (boxesV S t).1.length (intsV (boxesV S t).1) ∧ KB F0 w w' := by
 unfold boxesV
 rcases h with ⟨h1, v, h2, h3, h4⟩ | ⟨h1, h2, h3⟩
 ·rw [if_pos h1]
  obtain ⟨a, c, rfl, -⟩ := own_shape h3
  exact ⟨a, c, h2, h3, h4⟩
 ·rw [if_neg h1]
  exact ⟨none, 0, h2, ⟨rfl, Or.inl ⟨rfl, rfl⟩⟩, h3⟩
theorem boxesV_len (S : List (List Ty)) (t : Ty) : (boxesV S t).1.length ≤ 16 := by
 unfold boxesV
 split
 ·rename_i h; exact bxN_len S h.1 t h.2
 ·exact Nat.zero_le _
set_option maxRecDepth 100000 in
set_option maxHeartbeats 64000000 in
theorem layoutWords_any (n fd : Int) (hn : -9223372036854775808 ≤ n ∧ n ≤ 9223372036854775807) (S : List (List Ty)) (a : Option Addr) (c : Nat) (hc : S.length ≤ c) (t : Ty) (ta : Option Addr) (tc : Nat) (l : List ShpL) (la : Option Addr) (lc : Nat) (w : World) (h : StsAt 61 w a S) (ht : TyAt 61 w t ta tc) (hL : ShsAt w la l)
  (AWK : ∀ W, KB F0 w W → Calls Tryz.prog 8 #[] W fun e w' => e = .returned (.bool true) ∧ KB F0 W w') :
  Calls Tryz.prog 3 #[.int .i64 n, .int .i64 fd, .slice a S.length c, tyV t ta tc, .slice la l.length lc] w fun e w' => e = .returned (.bool true) ∧ KB F0 w w' := by
 obtain ⟨w0, rfl⟩ : ∃ w0, w0 = w := ⟨_, rfl⟩
 obtain ⟨W, hW⟩ : ∃ W, W = w0.alloc (.cells #[.int .u8 t.k, .bool t.m, .int .i64 t.r, .int .i64 t.s, .slice ta t.of.length tc] 26) := ⟨_, rfl⟩
 obtain ⟨kb, hb⟩ := boxTy w0 t ta tc
 rw [← hW] at kb hb
 have FT := Lib.hid (lyFit_any S a c t ta tc W (h.kbF kb) (ht.kbF kb))
 have AW := Lib.hid AWK
 have HW := Lib.hid hW
 have HB := Lib.hid (And.intro kb (And.intro hb (And.intro h (And.intro ht (And.intro hc (And.intro hL hn))))))
 obtain ⟨c0, c1, c2, c3, c4⟩ := TyCells.of_block hb
 simp only [Nat.zero_add] at c0 c1 c2 c3 c4
 obtain ⟨NL, hNL⟩ : ∃ x, x = l.length := ⟨_, rfl⟩
 rw [← hNL]
 have HNL := Lib.hid hNL
 obtain ⟨LS, hLS⟩ : ∃ x, x = S.length := ⟨_, rfl⟩
 have HLS := Lib.hid hLS
 obtain ⟨tk, htk⟩ : ∃ x, x = t.k := ⟨_, rfl⟩
 obtain ⟨tm, htm⟩ : ∃ x, x = t.m := ⟨_, rfl⟩
 obtain ⟨tr, htr⟩ : ∃ x, x = t.r := ⟨_, rfl⟩
 obtain ⟨ts, hts⟩ : ∃ x, x = t.s := ⟨_, rfl⟩
 obtain ⟨tl, htl⟩ : ∃ x, x = t.of.length := ⟨_, rfl⟩
 have HTY : Hid (∀ V, KB F0 W V → V.cell? ⟨w0.heap.size, 0, none⟩ = some (.int .u8 tk) ∧ V.cell? ⟨w0.heap.size, 1, none⟩ = some (.bool tm) ∧ V.cell? ⟨w0.heap.size, 2, none⟩ = some (.int .i64 tr) ∧ V.cell? ⟨w0.heap.size, 3, none⟩ = some (.int .i64 ts) ∧ V.cell? ⟨w0.heap.size, 4, none⟩ = some (.slice ta tl tc)) := Lib.hid (fun V hV => by
  have hb2 := hV.heap (fun x => x) hb
  rw [htk, htm, htr, hts, htl]
  exact ⟨blk_cell hb2 0, blk_cell hb2 1, blk_cell hb2 2, blk_cell hb2 3, blk_cell hb2 4⟩)
 have HV : Hid (tyV t ta tc = .agg #[.int .u8 tk, .bool tm, .int .i64 tr, .int .i64 ts, .slice ta tl tc]) := Lib.hid (by rw [htk, htm, htr, hts, htl]; rfl)
 rw [HV.out] at FT ⊢
 rw [← hLS] at FT ⊢
 rw [← htk] at c0 HW
 rw [← htm] at c1 HW
 rw [← htr] at c2 HW
 rw [← hts] at c3 HW
 rw [← htl] at c4 HW
 clear kb hb hW h ht hL AWK hc hn hNL hLS htk htm htr hts htl
 go_enter Tryz.func3, Tryz.ntmps3
 go_upto_region 1 with fail
 rw [← HW.out]
 go_wp2_with fail
 refine FT.out.mono ?_
 rintro e w2 ⟨f, rfl, hf, k2⟩
 have K2 := Lib.hid (And.intro (HB.out.1.trans k2) (And.intro k2 hf))
 clear k2 hf c0 c1 c2 c3 c4 FT
 cases f
 case false =>
  as_aux_lemma =>
  go_wp2_with fail
  refine (AW.out w2 K2.out.1).mono ?_
  rintro e w9 ⟨rfl, k9⟩
  have K9 := Lib.hid (KB.trans (K2.out.1) k9)
  clear k9
  go_wp2_with fail
  go_ret
  exact ⟨rfl, K9.out⟩
 case true =>
 by_cases h5 : 5000 < NL
 ·have d5 : decide ((5000 : Int) < (NL : Int)) = true := decide_eq_true (by omega)
  have d5n : decide (5000 < NL) = true := decide_eq_true h5
  have d5i : (5000 : Int) < (NL : Int) := by omega
  as_aux_lemma =>
  go_wp2_with fail
  refine (AW.out w2 K2.out.1).mono ?_
  rintro e w9 ⟨rfl, k9⟩
  have K9 := Lib.hid (KB.trans (K2.out.1) k9)
  clear k9
  go_wp2_with fail
  go_ret
  exact ⟨rfl, K9.out⟩
 have d5 : decide ((5000 : Int) < (NL : Int)) = false := decide_eq_false (by omega)
 have d5n : decide (5000 < NL) = false := decide_eq_false h5
 have d5i : ¬ (5000 : Int) < (NL : Int) := by omega
 obtain ⟨hS60, hF60⟩ := K2.out.2.2 (by first | rfl | trivial)
 have HF := Lib.hid (And.intro hS60 hF60)
 clear hS60 hF60
 go_wp2_with fail
 clear d5 d5n d5i
 go_loopg [11] NL (fun g iv wr => ∃ i : Nat, i ≤ NL ∧ g = NL - i ∧ iv = .int .i64 (i : Nat) ∧ Hid (KB F0 w2 wr ∧ ∀ j, j < i → (l.getD j shp0).2.length ≤ 100))
 case atStart => exact ⟨0, by omega, by omega, rfl, Lib.hid ⟨KB.refl _ _, fun j hj => by omega⟩⟩
 case round =>
  obtain ⟨i, hi, rfl, rfl, hst⟩ := hrel
  obtain ⟨wi, rfl⟩ : ∃ x : World, x = wr := ⟨_, rfl⟩
  by_cases hlt : i < NL
  ·have hiI : (i : Int) < (NL : Int) := by omega
   have dI : decide ((i : Int) < (NL : Int)) = true := decide_eq_true hiI
   obtain ⟨sb, so, ba, bc, rfl, -, s1, -⟩ := (HB.out.2.2.2.2.2.1.kbF (K2.out.1.trans hst.out.1)) i (by rw [← HNL.out]; exact hlt)
   obtain ⟨N, hN⟩ : ∃ x, x = (l.getD i shp0).2.length := ⟨_, rfl⟩
   rw [← hN] at s1
   have HN := Lib.hid hN
   clear hN
   by_cases h1 : 100 < N
   ·have d5 : decide ((100 : Int) < (N : Int)) = true := decide_eq_true (by omega)
    have d5n : decide (100 < N) = true := decide_eq_true h1
    have d5i : (100 : Int) < (N : Int) := by omega
    have KK := Lib.hid (K2.out.1.trans hst.out.1)
    clear hst
    as_aux_lemma =>
    go_wp2_with fail
    refine (AW.out wi KK.out).mono ?_
    rintro e w9 ⟨rfl, k9⟩
    have K9 := Lib.hid (KB.trans KK.out k9)
    clear k9
    go_wp2_with fail
    go_ret
    exact ⟨rfl, K9.out⟩
   ·have d5 : decide ((100 : Int) < (N : Int)) = false := decide_eq_false (by omega)
    have d5n : decide (100 < N) = false := decide_eq_false h1
    have d5i : ¬ (100 : Int) < (N : Int) := by omega
    have HS : Hid (KB F0 w2 wi ∧ ∀ j, j < i + 1 → (l.getD j shp0).2.length ≤ 100) := Lib.hid ⟨hst.out.1, fun j hj => by
     rcases Nat.lt_or_eq_of_le (Nat.lt_succ_iff.1 hj) with h2 | rfl
     ·exact hst.out.2 j h2
     ·rw [← HN.out]; omega⟩
    clear hst
    go_wp2_with fail
    go_roundg (NL - (i + 1))
    case measure => omega
    case rel => exact ⟨i + 1, by omega, rfl, by go_num, HS⟩
  ·obtain rfl : i = NL := by omega
   have dI : decide ((i : Int) < (i : Int)) = false := decide_eq_false (by omega)
   have HLn : Hid (∀ s ∈ l, s.2.length ≤ 1000000) := Lib.hid (fun s hs => by
    obtain ⟨j, hj, rfl⟩ := List.getElem_of_mem hs
    have h1 := hst.out.2 j (by rw [HNL.out]; exact hj)
    rw [List.getD_eq_getElem?_getD, List.getElem?_eq_getElem hj] at h1
    simp only [Option.getD_some] at h1
    omega)
   have KA := Lib.hid (And.intro (K2.out.1.trans hst.out.1) (K2.out.2.1.trans hst.out.1))
   clear hst hlt
   have C1 := Lib.hid (fun V => lyClass_any n V)
   have C2 := Lib.hid (fun V => rlClass_any n V)
   obtain ⟨x1, hx1⟩ : ∃ x, x = (clsW n).1 := ⟨_, rfl⟩
   obtain ⟨x2, hx2⟩ : ∃ x, x = (clsW n).2 := ⟨_, rfl⟩
   rw [← hx1, ← hx2] at C1 C2
   have Z1 := Lib.hid (fun V => lySize_any n HB.out.2.2.2.2.2.2 V)
   have Z2 := Lib.hid (fun V => rlSize_any n V)
   obtain ⟨z1, hz1⟩ : ∃ x, x = (sizW n).1 := ⟨_, rfl⟩
   obtain ⟨z2, hz2⟩ : ∃ x, x = (sizW n).2 := ⟨_, rfl⟩
   rw [← hz1, ← hz2] at Z1 Z2
   have h49 := stsLe HB.out.2.2.1 (show 49 ≤ 61 by omega)
   have H49 := Lib.hid h49
   have F1 := Lib.hid (fun (V : World) (hV : KB F0 w0 V) => lyField_any S (by have := HF.out.1; omega) (fun i => by have := HF.out.2 i; omega) a c HB.out.2.2.2.2.1 n fd V (H49.out.kbF hV))
   have F2 := Lib.hid (fun (V : World) (hV : KB F0 w0 V) => rlField_any S (by have := HF.out.1; omega) (fun i => by have := HF.out.2 i; omega) a c HB.out.2.2.2.2.1 n fd V (H49.out.kbF hV))
   have B1 := Lib.hid (fun (V : World) (hV : KB F0 w0 V) => lyBoxes_any S (by have := HF.out.1; omega) (fun i => by have := HF.out.2 i; omega) a c HB.out.2.2.2.2.1 t ta tc V (H49.out.kbF hV) ((HB.out.2.2.2.1.le (by omega)).kbF hV))
   have B2 := Lib.hid (fun (V : World) (hV : KB F0 w0 V) => rlBoxes_any S (by have := HF.out.1; omega) (fun i => by have := HF.out.2 i; omega) a c t ta tc V (H49.out.kbF hV) ((HB.out.2.2.2.1.le (by omega)).kbF hV))
   have M1 := Lib.hid (fun (V : World) (hV : KB F0 w0 V) => lyMay_any l (by rw [← HNL.out]; omega) HLn.out la lc V (HB.out.2.2.2.2.2.1.kbF hV))
   have M2 := Lib.hid (fun (V : World) (hV : KB F0 w0 V) => rlMay_any l (by rw [← HNL.out]; omega) HLn.out la lc V (HB.out.2.2.2.2.2.1.kbF hV))
   rw [← HLS.out] at F1 F2 B1 B2
   rw [HV.out] at B1 B2
   rw [← HNL.out] at M1 M2
   obtain ⟨ms, hms⟩ : ∃ x, x = mayS l := ⟨_, rfl⟩
   rw [← hms] at M1 M2
   obtain ⟨f1, hf1⟩ : ∃ x, x = (fieldV S n fd).1 := ⟨_, rfl⟩
   obtain ⟨f2, hf2⟩ : ∃ x, x = (fieldV S n fd).2 := ⟨_, rfl⟩
   have HFV := Lib.hid (And.intro hf1 hf2)
   obtain ⟨bl, hbl⟩ : ∃ x, x = (boxesV S t).1 := ⟨_, rfl⟩
   obtain ⟨be, hbe⟩ : ∃ x, x = (boxesV S t).2 := ⟨_, rfl⟩
   have HBV := Lib.hid (And.intro hbl hbe)
   clear hx1 hx2 hz1 hz2 h49 hms hf1 hf2 hbl hbe
   go_wp2_with fail
   refine (C1.out wi).mono ?_
   rintro e w3 ⟨rfl, k3⟩
   have K3 := Lib.hid (And.intro (KA.out.1.trans k3) (KA.out.2.trans k3))
   clear k3 C1
   go_wp2_with fail
   refine (C2.out w3).mono ?_
   rintro e w4 ⟨rfl, k4⟩
   have K4 := Lib.hid (And.intro (K3.out.1.trans k4) (K3.out.2.trans k4))
   clear k4 C2 K3
   go_wp2_with fail
   refine (Z1.out w4).mono ?_
   rintro e w5 ⟨rfl, rfl⟩
   clear Z1
   go_wp2_with fail
   refine (Z2.out w4).mono ?_
   rintro e w5 ⟨rfl, k5⟩
   have K5 := Lib.hid (And.intro (K4.out.1.trans k5) (K4.out.2.trans k5))
   clear k5 Z2 K4
   go_wp2_with fail
   refine (F1.out w5 K5.out.1).mono ?_
   intro e w6 hq
   obtain ⟨rfl, k6⟩ := lyFEnd_v hq
   rw [← HFV.out.1, ← HFV.out.2]
   have K6 := Lib.hid (And.intro (K5.out.1.trans k6) (K5.out.2.trans k6))
   clear k6 F1 K5 hq
   go_wp2_with fail
   refine (F2.out w6 K6.out.1).mono ?_
   intro e w7 hq
   obtain ⟨rfl, k7⟩ := lyFEnd_v hq
   rw [← HFV.out.1, ← HFV.out.2]
   have K7 := Lib.hid (And.intro (K6.out.1.trans k7) (K6.out.2.trans k7))
   obtain ⟨c0, c1, c2, c3, c4⟩ := HTY.out w7 K7.out.2
   clear k7 F2 K6 hq
   go_wp2_with fail
   refine (B1.out w7 K7.out.1).mono ?_
   intro e w8 hq
   obtain ⟨xa, xc, rfl, xo, k8⟩ := boxesEnd_v hq
   rw [← HBV.out.1] at xo ⊢
   rw [← HBV.out.2]
   have K8 := Lib.hid (And.intro (K7.out.1.trans k8) (And.intro (K7.out.2.trans k8) xo))
   clear k8 B1 K7 hq xo c0 c1 c2 c3 c4
   obtain ⟨c0, c1, c2, c3, c4⟩ := HTY.out w8 K8.out.2.1
   go_wp2_with fail
   refine (B2.out w8 K8.out.1).mono ?_
   intro e w9 hq
   obtain ⟨ya, yc, rfl, yo, k9⟩ := boxesEnd_v hq
   rw [← HBV.out.1] at yo ⊢
   rw [← HBV.out.2]
   have K9 := Lib.hid (And.intro (K8.out.1.trans k9) (And.intro (own_kb K8.out.2.2 k9 (fun _ _ x => x)) yo))
   clear k9 B2 K8 hq yo c0 c1 c2 c3 c4
   obtain ⟨N, hN⟩ : ∃ x, x = bl.length := ⟨_, rfl⟩
   rw [← hN] at K9 ⊢
   have HN := Lib.hid hN
   have hN16 : N ≤ 16 := by rw [hN, HBV.out.1]; exact boxesV_len S t
   clear hN
   go_upto_region 25 with fail
   go_loopg [18] N (fun g iv wr => ∃ i : Nat, i ≤ N ∧ g = N - i ∧ iv = .int .i64 (i : Nat) ∧ Hid (KB F0 w9 wr))
   case atStart => exact ⟨0, by omega, by omega, rfl, Lib.hid (KB.refl _ _)⟩
   case round =>
    obtain ⟨i, hi, rfl, rfl, hst⟩ := hrel
    obtain ⟨wj, rfl⟩ : ∃ x : World, x = wr := ⟨_, rfl⟩
    by_cases hlt : i < N
    ·have hiI : (i : Int) < (N : Int) := by omega
     have dI : decide ((i : Int) < (N : Int)) = true := decide_eq_true hiI
     obtain ⟨q1, rfl, -, h1⟩ := own_cellsZ (own_kb K9.out.2.1 hst.out (fun _ _ x => x)) (by omega)
     obtain ⟨q2, rfl, -, h2⟩ := own_cellsZ (own_kb K9.out.2.2 hst.out (fun _ _ x => x)) (by omega)
     obtain ⟨x, hx⟩ : ∃ x, (intsV bl)[i]? = some (.int .i64 x) := ⟨bl[i]'(by rw [← HN.out]; exact hlt), by simp [intsV, HN.out ▸ hlt]⟩
     have e1 : wj.cell? ⟨q1, i, none⟩ = some (.int .i64 x) := by rw [h1 i (by omega), hx]
     have e2 : wj.cell? ⟨q2, i, none⟩ = some (.int .i64 x) := by rw [h2 i (by omega), hx]
     clear h1 h2 hx
     have HS : Hid (∀ nq, KB F0 w9 (wj.drewN nq)) := Lib.hid (fun nq => hst.out.drewN nq)
     clear hst
     go_wp2_with fail
     go_quiet (fail)
     go_wp2_with fail
     go_roundg (N - (i + 1))
     case measure => omega
     case rel => exact ⟨i + 1, by omega, rfl, by go_num, Lib.hid (HS.out _)⟩
    ·obtain rfl : i = N := by omega
     have dI : decide ((i : Int) < (i : Int)) = false := decide_eq_false (by omega)
     have KJ := Lib.hid (K9.out.1.trans hst.out)
     clear hst
     go_wp2_with fail
     refine (M1.out wj KJ.out).mono ?_
     rintro e w10 ⟨rfl, k10⟩
     have K10 := Lib.hid (KJ.out.trans k10)
     clear k10 M1
     go_wp2_with fail
     refine (M2.out w10 K10.out).mono ?_
     rintro e w11 ⟨rfl, k11⟩
     have K11 := Lib.hid (K10.out.trans k11)
     clear k11 M2
     cases ms
     all_goals
      go_wp2_with fail
      refine (AW.out w11 K11.out).mono ?_
      rintro e w12 ⟨rfl, k12⟩
      have K12 := Lib.hid (K11.out.trans k12)
      clear k12
      go_wp2_with fail
      go_ret
      exact ⟨rfl, K12.out⟩
end Go.Proofs.YtaeppaaolkcbbaaGreatDoor

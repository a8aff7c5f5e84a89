/- types.Copies, Regions, Alike. types.alike, Alike. graph.zero, slices.ContainsFunc over numbers whatever is asked, slices.Contains over booleans. -/
import Derived.Test.YtaeppaaolkcbbaaGreatDoorMg08
import Derived.Test.YtaeppaaolkcbbaaGreatDoorMg03
import Derived.Test.YtaeppaaolkcbbaaGreatDoorMg10
namespace Go.Proofs.YtaeppaaolkcbbaaGreatDoor
open Go.RowKit

theorem own_lower {w : World} {B B' : Nat} {e : TypeId} {size : Nat} {v : Value} {n : Nat} {xs : List Value} (h : w.ownsRow B e size v n xs) (hb : B' ≤ B) : w.ownsRow B' e size v n xs := by
 obtain ⟨h1, h2⟩ := h
 refine ⟨h1, ?_⟩
 rcases h2 with h2 | ⟨g, cap, cur, hv, hg, r⟩
 ·exact Or.inl h2
 ·exact Or.inr ⟨g, cap, cur, hv, by omega, r⟩
def copB (t : Ty) : Bool := lookB 32 48 t && (decide (t.k = 1) || decide (t.k = 2) || (decide (t.k = 4) && !t.m))
set_option maxRecDepth 100000 in
set_option maxHeartbeats 16000000 in
theorem tyCopies_any (t : Ty) (ta : Option Addr) (tc : Nat) (w : World) (ht : TyAt 49 w t ta tc) :
  Calls Tryz.prog 157 #[tyV t ta tc] w fun e w' => e = .returned (.bool (copB t)) ∧ KB F0 w w' := by
 obtain ⟨w0, rfl⟩ : ∃ w0, w0 = w := ⟨_, rfl⟩
 obtain ⟨W, hW⟩ : ∃ W, W = w0.alloc (.cells #[.int .u8 t.k, .bool t.m, .int .i64 t.r, .int .i64 t.s, .slice ta t.of.length tc] 26) := ⟨_, rfl⟩
 obtain ⟨kb, hb⟩ := boxTy w0 t ta tc
 rw [← hW] at kb hb
 have MY := Lib.hid (tymay_any t ta tc W (ht.kbF kb))
 have HW := Lib.hid hW
 have HB := Lib.hid (And.intro kb hb)
 obtain ⟨c0, c1, c2, c3, c4⟩ := TyCells.of_block hb
 have HR : Hid (copB t = (lookB 32 48 t && (decide (t.k = 1) || decide (t.k = 2) || (decide (t.k = 4) && !t.m)))) := Lib.hid rfl
 clear kb hb hW ht
 unfold tyV at MY ⊢
 generalize copB t = r at HR ⊢
 generalize lookB 32 48 t = lk at MY HR
 obtain ⟨k1, hk1⟩ : ∃ b, (t.k == 1) = b := ⟨_, rfl⟩
 obtain ⟨k2, hk2⟩ : ∃ b, (t.k == 2) = b := ⟨_, rfl⟩
 obtain ⟨k4, hk4⟩ : ∃ b, (t.k == 4) = b := ⟨_, rfl⟩
 have HR2 : Hid (r = (lk && (k1 || k2 || (k4 && !t.m)))) := Lib.hid (by
  rw [HR.out, ← hk1, ← hk2, ← hk4]; rfl)
 clear HR
 generalize t.m = tm at *
 go_enter Tryz.func157, Tryz.ntmps157
 go_upto_region 1 with fail
 rw [← HW.out]
 go_wp2_with fail
 refine MY.out.mono ?_
 rintro e w2 ⟨rfl, kk⟩
 have hb2 := kk.heap (fun x => x) HB.out.2
 have K2 := Lib.hid (HB.out.1.trans kk)
 have d0 := blk_cell hb2 0
 have d1 := blk_cell hb2 1
 simp at d0 d1
 clear hb2 kk c0 c1 c2 c3 c4
 cases lk
 case false =>
  go_wp2_with fail
  go_ret
  exact ⟨ret_eq (by rw [HR2.out]; rfl), K2.out⟩
 case true =>
  cases k1 <;> cases k2 <;> cases k4
  all_goals
   go_wp2_with fail
   go_ret
   exact ⟨ret_eq (by rw [HR2.out]; first | rfl | simp), K2.out⟩
set_option maxRecDepth 100000 in
set_option maxHeartbeats 16000000 in
/-- types.Regions: the regions in new memory, or none. -/
theorem tyRegions_any (t : Ty) (ta : Option Addr) (tc : Nat) (w : World) (ht : TyAt 49 w t ta tc) :
  Calls Tryz.prog 94 #[tyV t ta tc] w fun e w' => ∃ v, e = .returned v ∧ w'.ownsRow w.heap.size 3 1 v (if lookB 32 48 t = true then regsF 48 t else []).length (intsV (if lookB 32 48 t = true then regsF 48 t else [])) ∧ KB F0 w w' := by
 obtain ⟨w0, rfl⟩ : ∃ w0, w0 = w := ⟨_, rfl⟩
 obtain ⟨W, hW⟩ : ∃ W, W = w0.alloc (.cells #[.int .u8 t.k, .bool t.m, .int .i64 t.r, .int .i64 t.s, .slice ta t.of.length tc] 26) := ⟨_, rfl⟩
 obtain ⟨kb, hb⟩ := boxTy w0 t ta tc
 rw [← hW] at kb hb
 have MY := Lib.hid (tymay_any t ta tc W (ht.kbF kb))
 have HW := Lib.hid hW
 have HB := Lib.hid (And.intro kb (And.intro hb ht))
 obtain ⟨c0, c1, c2, c3, c4⟩ := TyCells.of_block hb
 clear kb hb hW ht
 obtain ⟨lk, hlk⟩ : ∃ lk, lk = lookB 32 48 t := ⟨_, rfl⟩
 rw [← hlk] at MY ⊢
 have HLK := Lib.hid hlk
 clear hlk
 unfold tyV at MY ⊢
 go_enter Tryz.func94, Tryz.ntmps94
 go_upto_region 1 with fail
 rw [← HW.out]
 go_wp2_with fail
 refine MY.out.mono ?_
 rintro e w2 ⟨rfl, kk⟩
 have hb2 := kk.heap (fun x => x) HB.out.2.1
 have K2 := Lib.hid (HB.out.1.trans kk)
 clear kk c0 c1 c2 c3 c4 MY
 have d0 := blk_cell hb2 0
 have d1 := blk_cell hb2 1
 have d2 := blk_cell hb2 2
 have d3 := blk_cell hb2 3
 have d4 := blk_cell hb2 4
 simp at d0 d1 d2 d3 d4
 clear hb2
 cases lk
 case false =>
  go_wp2_with fail
  go_ret
  exact ⟨_, rfl, World.ownsRow_nil _ _ _ _, K2.out⟩
 case true =>
  have RG := Lib.hid (regions_any 48 (by omega) t ta tc w2 ((HB.out.2.2.le (by omega)).kbF K2.out) (look_deep HLK.out.symm))
  unfold tyV at RG
  go_wp2_with fail
  refine RG.out.mono ?_
  rintro e w3 ⟨v, rfl, ho, k3⟩
  have HO := Lib.hid (And.intro (own_lower ho K2.out.size) (K2.out.trans k3))
  clear ho k3 RG d0 d1 d2 d3 d4
  go_wp2_with fail
  go_ret
  exact ⟨_, rfl, HO.out.1, HO.out.2⟩
def alikeF : Nat → Ty → Ty → Bool
 | 0, _, _ => false
 | n + 1, a, b => decide (a.k = b.k) && (decide (a.m = b.m) && (decide (a.s = b.s) && (decide (a.of.length = 0) || alikeF n (in0 a) (in0 b))))
theorem look_of {S n : Nat} {t : Ty} (h : lookB S (n + 1) t = true) : t.of.length = (if t.k = 3 ∨ t.k = 4 then 1 else 0) ∧ ((t.k = 3 ∨ t.k = 4) → lookB S n (in0 t) = true) := by
 rw [lookB_succ] at h
 unfold lookV at h
 by_cases h12 : t.k = 1 ∨ t.k = 2
 ·rw [if_pos h12] at h
  simp at h
  rw [if_neg (by omega)]
  exact ⟨by rw [h.2.2]; rfl, fun h3 => by omega⟩
 rw [if_neg h12] at h
 by_cases h5 : t.k = 5
 ·rw [if_pos h5] at h
  simp at h
  rw [if_neg (by omega)]
  exact ⟨by rw [h.2.1]; rfl, fun h3 => by omega⟩
 rw [if_neg h5] at h
 by_cases h3 : t.k = 3
 ·rw [if_pos h3] at h
  simp at h
  rw [if_pos (Or.inl h3)]
  exact ⟨h.2.2.1, fun _ => h.2.2.2⟩
 rw [if_neg h3] at h
 by_cases h4 : t.k = 4
 ·rw [if_pos h4] at h
  simp at h
  rw [if_pos (Or.inr h4)]
  exact ⟨h.2.2.1, fun _ => h.2.2.2⟩
 rw [if_neg h4] at h
 cases h

theorem tyAlike1_any (x y : Int) (w : World) : Calls Tryz.prog 159 #[.int .i64 x, .int .i64 y] w fun e w' => e = .returned (.bool true) ∧ KB F0 w w' := by
 obtain ⟨w0, rfl⟩ : ∃ w0, w0 = w := ⟨_, rfl⟩
 go_enter Tryz.func159, Tryz.ntmps159
 go_wp2_with fail
 go_ret
 exact ⟨rfl, KB.refl _ _⟩
set_option maxRecDepth 100000 in
set_option maxHeartbeats 16000000 in
theorem tyalike_any : ∀ (n : Nat) (a b : Ty) (aa ba : Option Addr) (ac bc : Nat) (w : World), lookB 32 n a = true → lookB 32 n b = true → TyAt n w a aa ac → TyAt n w b ba bc →
  Calls Tryz.prog 158 #[tyV a aa ac, tyV b ba bc, .func (.func 159) #[] #[]] w fun e w' => e = .returned (.bool (alikeF n a b)) ∧ KB F0 w w' := by
 intro n
 induction n with
 | zero => intro a b aa ba ac bc w h; cases h
 | succ n ih =>
  intro a b aa ba ac bc w ha hb hta htb
  obtain ⟨w0, rfl⟩ : ∃ w0, w0 = w := ⟨_, rfl⟩
  obtain ⟨V, hV⟩ : ∃ V, V = w0.alloc (.cells #[.int .u8 a.k, .bool a.m, .int .i64 a.r, .int .i64 a.s, .slice aa a.of.length ac] 26) := ⟨_, rfl⟩
  obtain ⟨kV, hbV⟩ := boxTy w0 a aa ac
  rw [← hV] at kV hbV
  have hsV : V.heap.size = w0.heap.size + 1 := by rw [hV]; simp
  obtain ⟨W, hW⟩ : ∃ W, W = V.alloc (.cells #[.int .u8 b.k, .bool b.m, .int .i64 b.r, .int .i64 b.s, .slice ba b.of.length bc] 26) := ⟨_, rfl⟩
  obtain ⟨kW, hbW⟩ := boxTy V b ba bc
  rw [← hW] at kW hbW
  rw [hsV] at hbW
  have HW : Hid (W = (w0.alloc (.cells #[.int .u8 a.k, .bool a.m, .int .i64 a.r, .int .i64 a.s, .slice aa a.of.length ac] 26)).alloc (.cells #[.int .u8 b.k, .bool b.m, .int .i64 b.r, .int .i64 b.s, .slice ba b.of.length bc] 26)) := Lib.hid (by rw [hW, hV])
  have hbA := kW.heap (fun x => x) hbV
  have HB := Lib.hid (And.intro (kV.trans kW) (And.intro hbA hbW))
  have a0 := blk_cell hbA 0
  have a1 := blk_cell hbA 1
  have a2 := blk_cell hbA 2
  have a3 := blk_cell hbA 3
  have a4 := blk_cell hbA 4
  have b0 := blk_cell hbW 0
  have b1 := blk_cell hbW 1
  have b2 := blk_cell hbW 2
  have b3 := blk_cell hbW 3
  have b4 := blk_cell hbW 4
  simp at a0 a1 a2 a3 a4 b0 b1 b2 b3 b4
  obtain ⟨la, la2⟩ := look_of ha
  obtain ⟨lb, lb2⟩ := look_of hb
  have HR : Hid (alikeF (n + 1) a b = (decide (a.k = b.k) && (decide (a.m = b.m) && (decide (a.s = b.s) && (decide (a.of.length = 0) || alikeF n (in0 a) (in0 b)))))) := Lib.hid rfl
  clear hV kV hbV hsV hW kW hbW hbA ha hb
  unfold tyV
  generalize alikeF (n + 1) a b = r at HR ⊢
  have AL := Lib.hid (fun (X : World) => tyAlike1_any a.r b.r X)
  by_cases hk : a.k = b.k
  ·have tk : (a.k != b.k) = false := by simpa using hk
   have tkk : (b.k != b.k) = false := by simp
   by_cases hm : a.m = b.m
   ·have tm : (a.m != b.m) = false := by simpa using hm
    have tm2 : (a.m == b.m) = true := by simpa using hm
    by_cases hs : a.s = b.s
    ·have ts : (a.s != b.s) = false := by simpa using hs
     have hlen : b.of.length = a.of.length := by rw [la, lb, hk]
     by_cases h0 : a.of.length = 0
     ·have HRr : Hid (r = true) := Lib.hid (by rw [HR.out, decide_eq_true hk, decide_eq_true hm, decide_eq_true hs, decide_eq_true h0]; rfl)
      rw [hlen, h0] at b4 HW
      rw [h0] at a4
      rw [hlen, h0]
      have t0 : (((0 : Nat) : Int) == 0) = true := rfl
      rw [HRr.out]
      clear HR la la2 lb lb2 hta htb h0 hlen ih hk hm hs tkk
      go_enter Tryz.func158, Tryz.ntmps158
      go_upto_region 1 with fail
      rw [← HW.out]
      go_wp2_with fail
      refine (AL.out W).mono ?_
      rintro e w2 ⟨rfl, k2⟩
      have K2 := Lib.hid (HB.out.1.trans k2)
      have a4 := k2.cell (p := ⟨w0.heap.size, 4, none⟩) (fun x => x) a4
      clear k2
      go_wp2_with fail
      refine wp_region_rv 17 GK (kindW []) (by kernel_rfl) (by kernel_rfl) (kb_trans _) (kb_refl _) (kb_start _ _) (kindW_mono _ (by intro p hp; cases hp)) ?_
      simp only [pT, pU, pV, pW]
      iterate 5 (refine rv_det (by kernel_rfl) rfl (by intro w hG hH; have hc0 := kc hG (a4); go_simp; first | done | with_reducible rfl) ?_; simp only [Act.put, pA, pZ, pS])
      iterate 10 (refine rv_skip (by kernel_rfl) ?_; simp only [Act.put, pA, pZ, pS])
      iterate 2 (refine rv_det (by kernel_rfl) rfl (by intro w hG hH; go_simp; first | done | with_reducible rfl) ?_; simp only [Act.put, pA, pZ, pS])
      refine rv_nil (fun w hG hH => ?_)
      have K3 := Lib.hid (K2.out.trans hG)
      clear hG hH a4
      go_wp2_with fail
      go_ret
      exact ⟨rfl, K3.out⟩
     ·have h34 : a.k = 3 ∨ a.k = 4 := by
       by_cases h : a.k = 3 ∨ a.k = 4
       ·exact h
       ·rw [if_neg h] at la; exact absurd la h0
      have h1 : a.of.length = 1 := by rw [la, if_pos h34]
      obtain ⟨pa, oa, ua, uca, rfl, ia, iaw⟩ := hta.in0 (by omega)
      obtain ⟨pb, ob, ub, ucb, rfl, ib, ibw⟩ := htb.in0 (by rw [hlen]; omega)
      have IH := Lib.hid (fun (X : World) (hX : KB F0 w0 X) => ih (in0 a) (in0 b) ua ub uca ucb X (la2 h34) (lb2 (by rw [← hk]; exact h34)) (iaw.kbF hX) (ibw.kbF hX))
      have HRr : Hid (r = alikeF n (in0 a) (in0 b)) := Lib.hid (by rw [HR.out, decide_eq_true hk, decide_eq_true hm, decide_eq_true hs, decide_eq_false h0]; simp)
      have hac := hta.1
      have hbc := htb.1
      rw [h1] at hac
      rw [hlen, h1] at hbc b4 HW
      rw [h1] at a4
      rw [hlen, h1, HRr.out]
      have RA := Lib.hid (And.intro ia ib)
      unfold tyV at IH
      have t0 : (((1 : Nat) : Int) == 0) = false := rfl
      clear HR HRr la la2 lb lb2 hta htb h0 hlen ih h1 ia ib iaw ibw h34 hk hm hs tkk
      generalize alikeF n (in0 a) (in0 b) = q at IH ⊢
      go_enter Tryz.func158, Tryz.ntmps158
      go_upto_region 1 with fail
      rw [← HW.out]
      go_wp2_with fail
      refine (AL.out W).mono ?_
      rintro e w2 ⟨rfl, k2⟩
      have K2 := Lib.hid (HB.out.1.trans k2)
      have a4 := k2.cell (p := ⟨w0.heap.size, 4, none⟩) (fun x => x) a4
      have b4 := k2.cell (p := ⟨w0.heap.size + 1, 4, none⟩) (fun x => x) b4
      obtain ⟨ia0, ia1, ia2, ia3, ia4⟩ := RA.out.1.kbF K2.out
      obtain ⟨ib0, ib1, ib2, ib3, ib4⟩ := RA.out.2.kbF K2.out
      clear k2
      go_wp2_with fail
      refine wp_region_rv 17 GK (kindW [(14, (fun v => v = .bool q), (fun _ _ => True))]) (by kernel_rfl) (by kernel_rfl) (kb_trans _) (kb_refl _) (kb_start _ _) (kindW_mono _ (by intro p hp; simp only [List.mem_cons, List.not_mem_nil, or_false] at hp; (subst hp; exact lasts_true))) ?_
      simp only [pT, pU, pV, pW]
      iterate 14 (refine rv_det (by kernel_rfl) rfl (by intro w hG hH; have hc0 := kc hG (a4); have hc1 := kc hG (b4); have hc2 := kc hG (ia0); have hc3 := kc hG (ia1); have hc4 := kc hG (ia2); have hc5 := kc hG (ia3); have hc6 := kc hG (ia4); have hc7 := kc hG (ib0); have hc8 := kc hG (ib1); have hc9 := kc hG (ib2); have hc10 := kc hG (ib3); have hc11 := kc hG (ib4); go_simp; first | done | with_reducible rfl) ?_; simp only [Act.put, pA, pZ, pS])
      refine rv_rel (by kernel_rfl) rfl ⟨_, rfl⟩ (by
       intro w hG hH
       refine opVal_call (by go_simp; first | done | exact ⟨⟨rfl, rfl⟩, rfl⟩) ?_
       refine (IH.out _ (K2.out.trans hG)).mono ?_
       rintro e w' ⟨rfl, hq⟩
       exact ⟨_, rfl, rfl, by first | (obtain ⟨nq, rfl⟩ := hq; exact (KB.refl _ _).drewN _) | (subst hq; exact KB.refl _ _) | exact hq, trivial⟩) ?_
      rintro v rfl
      simp only [Act.put, pA, pZ, pS]
      iterate 2 (refine rv_det (by kernel_rfl) rfl (by intro w hG hH; go_simp; first | done | with_reducible rfl) ?_; simp only [Act.put, pA, pZ, pS])
      refine rv_nil (fun w hG hH => ?_)
      have K3 := Lib.hid (K2.out.trans hG)
      clear hG hH a4 b4 ia0 ia1 ia2 ia3 ia4 ib0 ib1 ib2 ib3 ib4
      go_wp2_with fail
      go_ret
      exact ⟨rfl, K3.out⟩
    ·have ts : (a.s != b.s) = true := by simpa using hs
     have HRr : Hid (r = false) := Lib.hid (by rw [HR.out, decide_eq_false hs]; simp)
     rw [HRr.out]
     clear HR hs la la2 lb lb2 hta htb ih hk hm tkk
     go_enter Tryz.func158, Tryz.ntmps158
     go_upto_region 1 with fail
     rw [← HW.out]
     go_wp2_with fail
     go_ret
     exact ⟨rfl, HB.out.1⟩
   ·have tm : (a.m != b.m) = true := by simpa using hm
    have tm2 : (a.m == b.m) = false := by simpa using hm
    have HRr : Hid (r = false) := Lib.hid (by rw [HR.out, decide_eq_false hm]; simp)
    rw [HRr.out]
    clear HR hm la la2 lb lb2 hta htb ih hk tkk
    go_enter Tryz.func158, Tryz.ntmps158
    go_upto_region 1 with fail
    rw [← HW.out]
    go_wp2_with fail
    go_ret
    exact ⟨rfl, HB.out.1⟩
  ·have tk : (a.k != b.k) = true := by simpa using hk
   have HRr : Hid (r = false) := Lib.hid (by rw [HR.out, decide_eq_false hk]; simp)
   rw [HRr.out]
   clear HR hk la la2 lb lb2 hta htb ih
   go_enter Tryz.func158, Tryz.ntmps158
   go_upto_region 1 with fail
   rw [← HW.out]
   go_wp2_with fail
   go_ret
   exact ⟨rfl, HB.out.1⟩
def alkB (a b : Ty) : Bool := lookB 32 48 a && (lookB 32 48 b && alikeF 48 a b)
set_option maxRecDepth 100000 in
set_option maxHeartbeats 16000000 in
theorem tyAlike_any (a b : Ty) (aa ba : Option Addr) (ac bc : Nat) (w : World) (hta : TyAt 49 w a aa ac) (htb : TyAt 49 w b ba bc) :
  Calls Tryz.prog 141 #[tyV a aa ac, tyV b ba bc] w fun e w' => e = .returned (.bool (alkB a b)) ∧ KB F0 w w' := by
 obtain ⟨w0, rfl⟩ : ∃ w0, w0 = w := ⟨_, rfl⟩
 obtain ⟨V, hV⟩ : ∃ V, V = w0.alloc (.cells #[.int .u8 a.k, .bool a.m, .int .i64 a.r, .int .i64 a.s, .slice aa a.of.length ac] 26) := ⟨_, rfl⟩
 obtain ⟨kV, hbV⟩ := boxTy w0 a aa ac
 rw [← hV] at kV hbV
 have hsV : V.heap.size = w0.heap.size + 1 := by rw [hV]; simp
 obtain ⟨W, hW⟩ : ∃ W, W = V.alloc (.cells #[.int .u8 b.k, .bool b.m, .int .i64 b.r, .int .i64 b.s, .slice ba b.of.length bc] 26) := ⟨_, rfl⟩
 obtain ⟨kW, hbW⟩ := boxTy V b ba bc
 rw [← hW] at kW hbW
 rw [hsV] at hbW
 have HW : Hid (W = (w0.alloc (.cells #[.int .u8 a.k, .bool a.m, .int .i64 a.r, .int .i64 a.s, .slice aa a.of.length ac] 26)).alloc (.cells #[.int .u8 b.k, .bool b.m, .int .i64 b.r, .int .i64 b.s, .slice ba b.of.length bc] 26)) := Lib.hid (by rw [hW, hV])
 have hbA := kW.heap (fun x => x) hbV
 have MA := Lib.hid (tymay_any a aa ac W (hta.kbF (kV.trans kW)))
 have MB := Lib.hid (fun (X : World) (hX : KB F0 w0 X) => tymay_any b ba bc X (htb.kbF hX))
 have HB := Lib.hid (And.intro (kV.trans kW) (And.intro hbA (And.intro hbW (And.intro hta htb))))
 have a0 := blk_cell hbA 0
 have a1 := blk_cell hbA 1
 have a2 := blk_cell hbA 2
 have a3 := blk_cell hbA 3
 have a4 := blk_cell hbA 4
 simp at a0 a1 a2 a3 a4
 have HR : Hid (alkB a b = (lookB 32 48 a && (lookB 32 48 b && alikeF 48 a b))) := Lib.hid rfl
 obtain ⟨la, hla⟩ : ∃ x, x = lookB 32 48 a := ⟨_, rfl⟩
 obtain ⟨lb, hlb⟩ : ∃ x, x = lookB 32 48 b := ⟨_, rfl⟩
 rw [← hla] at MA HR
 rw [← hlb] at MB HR
 have HL := Lib.hid (And.intro hla hlb)
 clear hV kV hbV hsV hW kW hbW hbA hta htb hla hlb
 unfold tyV at MA MB ⊢
 go_enter Tryz.func141, Tryz.ntmps141
 go_upto_region 1 with fail
 rw [← HW.out]
 go_wp2_with fail
 refine MA.out.mono ?_
 rintro e w2 ⟨rfl, k2⟩
 have hA2 := k2.heap (fun x => x) HB.out.2.1
 have hB2 := k2.heap (fun x => x) HB.out.2.2.1
 have K2 := Lib.hid (And.intro (HB.out.1.trans k2) (And.intro hA2 hB2))
 clear k2 a0 a1 a2 a3 a4 MA
 have b0 := blk_cell hB2 0
 have b1 := blk_cell hB2 1
 have b2 := blk_cell hB2 2
 have b3 := blk_cell hB2 3
 have b4 := blk_cell hB2 4
 simp at b0 b1 b2 b3 b4
 clear hA2 hB2
 cases la
 case false =>
  have HF : Hid (alkB a b = false) := Lib.hid (by rw [HR.out]; rfl)
  go_wp2_with fail
  go_ret
  exact ⟨ret_eq (by rw [HF.out]; rfl), K2.out.1⟩
 case true =>
  go_wp2_with fail
  refine (MB.out w2 K2.out.1).mono ?_
  rintro e w3 ⟨rfl, k3⟩
  have hA3 := k3.heap (fun x => x) K2.out.2.1
  have hB3 := k3.heap (fun x => x) K2.out.2.2
  have K3 := Lib.hid (K2.out.1.trans k3)
  clear k3 b0 b1 b2 b3 b4 MB
  have c0 := blk_cell hA3 0
  have c1 := blk_cell hA3 1
  have c2 := blk_cell hA3 2
  have c3 := blk_cell hA3 3
  have c4 := blk_cell hA3 4
  simp at c0 c1 c2 c3 c4
  have d0 := blk_cell hB3 0
  have d1 := blk_cell hB3 1
  have d2 := blk_cell hB3 2
  have d3 := blk_cell hB3 3
  have d4 := blk_cell hB3 4
  simp at d0 d1 d2 d3 d4
  clear hA3 hB3
  cases lb
  case false =>
   have HF : Hid (alkB a b = false) := Lib.hid (by rw [HR.out]; rfl)
   go_wp2_with fail
   go_ret
   exact ⟨ret_eq (by rw [HF.out]; rfl), K3.out⟩
  case true =>
   have HF : Hid (alkB a b = alikeF 48 a b) := Lib.hid (by rw [HR.out]; rfl)
   have AL := Lib.hid (tyalike_any 48 a b aa ba ac bc w3 HL.out.1.symm HL.out.2.symm ((HB.out.2.2.2.1.le (by omega)).kbF K3.out) ((HB.out.2.2.2.2.le (by omega)).kbF K3.out))
   unfold tyV at AL
   go_wp2_with fail
   refine AL.out.mono ?_
   rintro e w4 ⟨rfl, k4⟩
   have K4 := Lib.hid (K3.out.trans k4)
   clear k4
   go_wp2_with fail
   go_ret
   exact ⟨ret_eq (by rw [HF.out]; rfl), K4.out⟩

def zeroB (p : Pl) : Bool := decide (p.loc = 0) && decide (p.path.length = 0)
set_option maxRecDepth 100000 in
set_option maxHeartbeats 16000000 in
theorem grZero_any (p : Pl) (pa : Option Addr) (pc : Nat) (w : World) : Calls Tryz.prog 156 #[plV p pa pc] w fun e w' => e = .returned (.bool (zeroB p)) ∧ KB F0 w w' := by
 obtain ⟨w0, rfl⟩ : ∃ w0, w0 = w := ⟨_, rfl⟩
 obtain ⟨W, hW⟩ : ∃ W, W = w0.alloc (.cells #[.int .i64 p.loc, .slice pa p.path.length pc] 52) := ⟨_, rfl⟩
 have hk := (KB.refl F0 w0).alloc (.cells #[.int .i64 p.loc, .slice pa p.path.length pc] 52)
 have hb := alloc_new w0 (.cells #[.int .i64 p.loc, .slice pa p.path.length pc] 52)
 rw [← hW] at hk hb
 have p0 : W.cell? ⟨w0.heap.size, 0, none⟩ = some (.int .i64 p.loc) := blk_cell hb 0
 have p1 : W.cell? ⟨w0.heap.size, 1, none⟩ = some (.slice pa p.path.length pc) := blk_cell hb 1
 have HK := Lib.hid hk
 have HW := Lib.hid hW
 unfold plV zeroB
 generalize p.path.length = N at *
 generalize p.loc = x at *
 clear hk hb hW
 go_enter Tryz.func156, Tryz.ntmps156
 go_upto_region 1 with fail
 rw [← HW.out]
 by_cases h1 : x = 0
 ·subst h1
  by_cases h2 : N = 0
  ·subst h2
   go_wp2_with fail
   go_ret
   exact ⟨ret_eq (by simp), HK.out⟩
  ·have h3 : ¬ ((N : Int) = 0) := by omega
   have h4 : ((N : Int) == 0) = false := by simp [h2]
   have h5 : decide ((N : Int) = 0) = false := decide_eq_false h3
   have HD : Hid (decide (N = 0) = false) := Lib.hid (decide_eq_false h2)
   go_wp2_with fail
   go_ret
   exact ⟨ret_eq (by simp [HD.out, h4, h5]), HK.out⟩
 ·have h4 : (x == 0) = false := by simp [h1]
  have h5 : decide (x = 0) = false := decide_eq_false h1
  go_wp2_with fail
  go_ret
  exact ⟨ret_eq (by simp [h4, h5]), HK.out⟩
set_option maxRecDepth 100000 in
set_option maxHeartbeats 16000000 in
theorem ixIntsF_any (g : FuncId) (cap : Array Value) (hen : ∀ args W, (callFunc g args).run Tryz.prog W = .ok (.enter g args) W) (q : Int → Bool) (l : List Int) (hl : l.length ≤ 1000000) (a : Option Addr) (c : Nat) (w : World) (hn : ∀ x W, KB F0 w W → Calls Tryz.prog g (#[.int .i64 x] ++ cap) W fun e w' => e = .returned (.bool (q x)) ∧ KB F0 W w') (h : IntsAt w a l) :
  Calls Tryz.prog 147 #[.slice a l.length c, .func (.func g) #[] cap] w fun e w' => ∃ k : Int, e = .returned (.int .i64 k) ∧ decide (0 ≤ k) = l.any q ∧ KB F0 w w' := by
 obtain ⟨w0, rfl⟩ : ∃ w0, w0 = w := ⟨_, rfl⟩
 obtain ⟨L, hL⟩ : ∃ L, L = l.length := ⟨_, rfl⟩
 rw [← hL] at hl ⊢
 have HH := Lib.hid (And.intro hn (And.intro h hL))
 clear hn h hL
 go_enter Tryz.func147, Tryz.ntmps147
 go_wp2_with fail
 go_loopw [8] (fun kv wr => ∃ k : Nat, k ≤ L ∧ kv = .int .i64 (k : Nat) ∧ Hid (KB F0 w0 wr ∧ ∀ j, j < k → q (l.getD j 0) = false)) (fun kv _ => L - (intOf kv).toNat)
 case atStart => exact ⟨0, by omega, rfl, Lib.hid ⟨KB.refl _ _, fun j hj => by omega⟩⟩
 case round =>
  obtain ⟨k, hk, rfl, hst⟩ := hrel
  by_cases hlt : k < L
  ·have hkI : (k : Int) < (L : Int) := by omega
   have dk : decide ((k : Int) < (L : Int)) = true := decide_eq_true hkI
   obtain ⟨b, o, rfl, hx⟩ := HH.out.2.1 k (by rw [← HH.out.2.2]; exact hlt)
   have n0 := hst.out.1.cell (p := ⟨b, o + k, none⟩) (fun x => x) hx
   have CL := HH.out.1 (l.getD k 0) wr hst.out.1
   obtain ⟨qv, hq⟩ : ∃ qv, qv = q (l.getD k 0) := ⟨_, rfl⟩
   rw [← hq] at CL
   have HQ := Lib.hid hq
   have CL2 := Lib.hid CL
   generalize l.getD k 0 = f at n0 CL2
   clear hx CL hq
   go_wp2_with fail
   refine CL2.out.mono ?_
   rintro e w1 ⟨rfl, k1⟩
   have K1 := Lib.hid (hst.out.1.trans k1)
   clear k1 n0
   cases qv with
   | true =>
    have HA : Hid (decide ((0 : Int) ≤ (k : Int)) = l.any q) := Lib.hid (by
     rw [any_getD (d := 0) (by rw [← HH.out.2.2]; exact hlt) HQ.out.symm]
     exact decide_eq_true (by omega))
    go_wp2_with fail
    go_ret
    exact ⟨_, rfl, HA.out, K1.out⟩
   | false =>
    have HN : Hid (KB F0 w0 w1 ∧ ∀ j, j < k + 1 → q (l.getD j 0) = false) := Lib.hid ⟨K1.out, fun j hj => by
     rcases Nat.lt_or_eq_of_le (Nat.lt_succ_iff.1 hj) with h1 | rfl
     ·exact hst.out.2 j h1
     ·exact HQ.out.symm⟩
    go_wp2_with fail
    exact ⟨⟨k + 1, by omega, by go_num, HN⟩, by simp [intOf]; omega⟩
  ·obtain rfl : k = L := by omega
   have dk : decide ((k : Int) < (k : Int)) = false := decide_eq_false (by omega)
   have HA : Hid (decide ((0 : Int) ≤ -1) = l.any q) := Lib.hid (by
    rw [any_none (d := 0) (fun i hi => hst.out.2 i (by rw [HH.out.2.2]; exact hi))]
    exact decide_eq_false (by omega))
   have HK := Lib.hid hst.out.1
   clear hst
   go_wp2_with fail
   go_ret
   exact ⟨_, rfl, HA.out, HK.out⟩
set_option maxRecDepth 100000 in
set_option maxHeartbeats 16000000 in
theorem ctIntsF_any (g : FuncId) (cap : Array Value) (hen : ∀ args W, (callFunc g args).run Tryz.prog W = .ok (.enter g args) W) (q : Int → Bool) (l : List Int) (hl : l.length ≤ 1000000) (a : Option Addr) (c : Nat) (w : World) (hn : ∀ x W, KB F0 w W → Calls Tryz.prog g (#[.int .i64 x] ++ cap) W fun e w' => e = .returned (.bool (q x)) ∧ KB F0 W w') (h : IntsAt w a l) :
  Calls Tryz.prog 110 #[.slice a l.length c, .func (.func g) #[] cap] w fun e w' => e = .returned (.bool (l.any q)) ∧ KB F0 w w' := by
 obtain ⟨w0, rfl⟩ : ∃ w0, w0 = w := ⟨_, rfl⟩
 have IX := Lib.hid (ixIntsF_any g cap hen q l hl a c w0 hn h)
 clear hn h hl
 generalize l.length = L at IX ⊢
 generalize l.any q = r at IX ⊢
 go_enter Tryz.func110, Tryz.ntmps110
 go_wp2_with fail
 refine IX.out.mono ?_
 rintro e w1 ⟨k, rfl, rfl, hk⟩
 have K := Lib.hid hk
 clear hk IX
 go_wp2_with fail
 all_goals
  go_ret
  exact ⟨ret_eq (by first | rfl | simp_all), K.out⟩
def BoolsAt (w : World) (a : Option Addr) (l : List Bool) : Prop := ∀ k, k < l.length → ∃ b off, a = some ⟨b, off, none⟩ ∧ w.cell? ⟨b, off + k, none⟩ = some (.bool (l.getD k false))
set_option maxRecDepth 100000 in
set_option maxHeartbeats 16000000 in
theorem ixBool_any (l : List Bool) (hl : l.length ≤ 1000000) (a : Option Addr) (c : Nat) (w : World) (h : BoolsAt w a l) :
  Calls Tryz.prog 164 #[.slice a l.length c, .bool false] w fun e w' => ∃ k : Int, e = .returned (.int .i64 k) ∧ decide (0 ≤ k) = l.any (fun x => !x) ∧ w' = w := by
 obtain ⟨w0, rfl⟩ : ∃ w0, w0 = w := ⟨_, rfl⟩
 obtain ⟨L, hL⟩ : ∃ L, L = l.length := ⟨_, rfl⟩
 rw [← hL] at hl ⊢
 have HH := Lib.hid (And.intro h hL)
 clear h hL
 go_enter Tryz.func164, Tryz.ntmps164
 go_wp2_with fail
 go_loopw [8] (fun kv wr => ∃ k : Nat, k ≤ L ∧ kv = .int .i64 (k : Nat) ∧ Hid (∀ j, j < k → (!(l.getD j false)) = false) ∧ wr = w0) (fun kv _ => L - (intOf kv).toNat)
 case atStart => exact ⟨0, by omega, rfl, Lib.hid fun j hj => by omega, rfl⟩
 case round =>
  obtain ⟨k, hk, rfl, hst, rfl⟩ := hrel
  by_cases hlt : k < L
  ·have hkI : (k : Int) < (L : Int) := by omega
   have dk : decide ((k : Int) < (L : Int)) = true := decide_eq_true hkI
   obtain ⟨b, o, rfl, hx⟩ := HH.out.1 k (by rw [← HH.out.2]; exact hlt)
   obtain ⟨qv, hq⟩ : ∃ qv, qv = l.getD k false := ⟨_, rfl⟩
   rw [← hq] at hx
   have HQ := Lib.hid hq
   clear hq
   cases qv with
   | false =>
    have HA : Hid (decide ((0 : Int) ≤ (k : Int)) = l.any (fun x => !x)) := Lib.hid (by
     rw [any_getD (p := fun x => !x) (d := false) (by rw [← HH.out.2]; exact hlt) (by rw [← HQ.out]; rfl)]
     exact decide_eq_true (by omega))
    go_wp2_with fail
    go_ret
    exact ⟨_, rfl, HA.out, rfl⟩
   | true =>
    have HN : Hid (∀ j, j < k + 1 → (!(l.getD j false)) = false) := Lib.hid fun j hj => by
     rcases Nat.lt_or_eq_of_le (Nat.lt_succ_iff.1 hj) with h1 | rfl
     ·exact hst.out j h1
     ·rw [← HQ.out]; rfl
    go_wp2_with fail
    exact ⟨⟨k + 1, by omega, by go_num, HN, trivial⟩, by simp [intOf]; omega⟩
  ·obtain rfl : k = L := by omega
   have dk : decide ((k : Int) < (k : Int)) = false := decide_eq_false (by omega)
   have HA : Hid (decide ((0 : Int) ≤ -1) = l.any (fun x => !x)) := Lib.hid (by
    rw [any_none (p := fun x => !x) (d := false) (fun i hi => hst.out i (by rw [HH.out.2]; exact hi))]
    exact decide_eq_false (by omega))
   clear hst
   go_wp2_with fail
   go_ret
   exact ⟨_, rfl, HA.out, rfl⟩
set_option maxRecDepth 100000 in
set_option maxHeartbeats 16000000 in
theorem ctBool_any (l : List Bool) (hl : l.length ≤ 1000000) (a : Option Addr) (c : Nat) (w : World) (h : BoolsAt w a l) :
  Calls Tryz.prog 161 #[.slice a l.length c, .bool false] w fun e w' => e = .returned (.bool (l.any fun x => !x)) ∧ w' = w := by
 obtain ⟨w0, rfl⟩ : ∃ w0, w0 = w := ⟨_, rfl⟩
 have IX := Lib.hid (ixBool_any l hl a c w0 h)
 clear h hl
 generalize l.length = L at IX ⊢
 generalize (l.any fun x => !x) = r at IX ⊢
 go_enter Tryz.func161, Tryz.ntmps161
 go_wp2_with fail
 refine IX.out.mono ?_
 rintro e w1 ⟨k, rfl, rfl, rfl⟩
 clear IX
 go_wp2_with fail
 all_goals
  go_ret
  exact ⟨ret_eq (by first | rfl | simp_all), rfl⟩
end Go.Proofs.YtaeppaaolkcbbaaGreatDoor

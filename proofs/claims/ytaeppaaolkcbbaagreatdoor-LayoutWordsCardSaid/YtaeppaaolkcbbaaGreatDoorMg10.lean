/- loanwordref06: look, plain. place.walk$1, locals asked. Places, plain: prefixes and their order. A place's value, a place in a world. -/
import Derived.Test.YtaeppaaolkcbbaaGreatDoorMg02
import Derived.Test.YtaeppaaolkcbbaaGreatDoorMg08
import Derived.Test.YtaeppaaolkcbbaaGreatDoorMg00
namespace Go.Proofs.YtaeppaaolkcbbaaGreatDoor
open Go.RowKit

set_option maxRecDepth 100000 in
set_option maxHeartbeats 16000000 in
theorem rzLook_any (S : Nat) : ∀ n : Nat, n ≤ 100 → ∀ (t : Ty) (a : Option Addr) (c : Nat) (w : World), TyAt (n + 1) w t a c →
  Calls Tryz.prog 73 #[tyV t a c, .int .i64 S, .int .i64 n] w fun e w' => e = .returned (.bool (lookB S n t)) ∧ KB F0 w w' := by
 intro n
 induction n with
 | zero =>
  intro _ t a c w _
  obtain ⟨w0, rfl⟩ : ∃ w0, w0 = w := ⟨_, rfl⟩
  obtain ⟨W, hW⟩ : ∃ W, W = w0.alloc (.cells #[.int .u8 t.k, .bool t.m, .int .i64 t.r, .int .i64 t.s, .slice a t.of.length c] 26) := ⟨_, rfl⟩
  obtain ⟨kb, hb⟩ := boxTy w0 t a c
  rw [← hW] at kb hb
  have HB := Lib.hid (And.intro kb hb)
  have HW := Lib.hid hW
  clear kb hb hW
  unfold tyV
  go_enter Tryz.func73, Tryz.ntmps73
  go_wp2_with fail
  go_ret
  exact ⟨rfl, by rw [← HW.out]; exact HB.out.1⟩
 | succ n ih =>
  intro hn t a c w h
  obtain ⟨w0, rfl⟩ : ∃ w0, w0 = w := ⟨_, rfl⟩
  obtain ⟨W, hW⟩ : ∃ W, W = w0.alloc (.cells #[.int .u8 t.k, .bool t.m, .int .i64 t.r, .int .i64 t.s, .slice a t.of.length c] 26) := ⟨_, rfl⟩
  obtain ⟨kb, hb⟩ := boxTy w0 t a c
  rw [← hW] at kb hb
  have hw := h.kbF kb
  have HB := Lib.hid (And.intro kb hb)
  have HW := Lib.hid hW
  have tc := TyCells.of_block hb
  rw [lookB_succ]
  obtain ⟨hc0, hc1, hc2, hc3, hc4⟩ := tc
  simp only [Nat.zero_add] at hc0 hc1 hc2 hc3 hc4
  have hLc : t.of.length ≤ c := hw.1
  have hw1 : IntKind.i64.wrap (((n + 1 : Nat) : Int) - 1) = (n : Int) := by rw [w64 (by omega) (by omega)]; omega
  have ht0 : ¬ (((n + 1 : Nat) : Int) < 1) := by omega
  have ht1 : decide (((n + 1 : Nat) : Int) < 1) = false := decide_eq_false (by omega)
  unfold tyV
  by_cases hl : t.of.length = 1
  ·have hl0 : 0 < t.of.length := by omega
   obtain ⟨b, o, a', c', rfl, ic, iw⟩ := hw.in0 hl0
   have LK := fun (V : World) (hk : KB F0 W V) => ih (by omega) (in0 t) a' c' V (iw.kbF hk)
   unfold tyV at LK
   obtain ⟨i0, i1, i2, i3, i4⟩ := ic
   have h1c : (1 : Int) ≤ (c : Int) := by omega
   generalize lookB S n (in0 t) = q at LK ⊢
   generalize in0 t = u at LK i0 i1 i2 i3 i4
   obtain ⟨R, hR⟩ : ∃ R, R = lookV S t.k t.m t.r t.s t.of.length (decide (t.of.length = 1) && q) := ⟨_, rfl⟩
   rw [← hR]
   rw [hl] at HB HW hc4 hR ⊢
   have LK2 := Lib.hid LK
   clear hw h ih LK iw kb hb hW hl hl0 hLc
   generalize t.k = k at *
   generalize t.m = m at *
   generalize t.r = rg at *
   generalize t.s = st at *
   have HR := Lib.hid hR
   clear hR
   go_enter Tryz.func73, Tryz.ntmps73
   go_upto_region 1 with fail
   rw [← HW.out]
   go_wp2_with ((with_reducible refine (LK2.out _ (KB.refl _ _)).mono ?_); rintro e w1 ⟨rfl, k1⟩)
   all_goals
    go_ret
    refine ⟨ret_eq (congrArg Value.bool ?_), (by first | exact HB.out.1 | exact HB.out.1.trans (by assumption))⟩
    rw [HR.out]
    clear HR HB HW LK2 hc0 hc1 hc2 hc3 hc4 hw1 ht0 ht1 h1c i0 i1 i2 i3 i4
    unfold lookV
    simp_all
    try (first | omega | (intro h1 h2; omega) | (intro h1; omega) | (rw [Bool.eq_iff_iff]; simp; omega) | (rw [Bool.eq_iff_iff]; simp; done))
  ·have hl1 : ((t.of.length : Int) == 1) = false := by simp; omega
   obtain ⟨q, hq⟩ : ∃ q, q = lookB S n (in0 t) := ⟨_, rfl⟩
   rw [← hq]
   obtain ⟨L, hL⟩ : ∃ L, L = t.of.length := ⟨_, rfl⟩
   obtain ⟨R, hR⟩ : ∃ R, R = lookV S t.k t.m t.r t.s t.of.length (decide (t.of.length = 1) && q) := ⟨_, rfl⟩
   rw [← hR]
   rw [← hL] at HB HW hc4 hR hl1 ⊢
   have hLn : ¬ L = 1 := by omega
   clear hw h ih kb hb hW hl hL hLc hq
   generalize t.k = k at *
   generalize t.m = m at *
   generalize t.r = rg at *
   generalize t.s = st at *
   have HR := Lib.hid hR
   clear hR
   go_enter Tryz.func73, Tryz.ntmps73
   go_upto_region 1 with fail
   rw [← HW.out]
   go_wp2_with fail
   all_goals
    go_ret
    refine ⟨ret_eq (congrArg Value.bool ?_), HB.out.1⟩
    rw [HR.out]
    clear HR HB HW hc0 hc1 hc2 hc3 hc4 hw1 ht0 ht1 hl1
    unfold lookV
    simp_all
    try (first | omega | (intro h1 h2; omega) | (intro h1; omega) | (rw [Bool.eq_iff_iff]; simp; omega) | (rw [Bool.eq_iff_iff]; simp; done))
theorem look_kind {S n : Nat} {t : Ty} (h : lookB S (n + 1) t = true) : (t.k = 3 → t.of.length = 1 ∧ lookB S n (in0 t) = true) ∧ (t.k ≠ 3 → t.k ≠ 4 → t.of.length = 0) := by
 rw [lookB_succ] at h
 unfold lookV at h
 refine ⟨fun hk => ?_, fun h3 h4 => ?_⟩
 ·rw [hk] at h
  simp at h
  exact ⟨h.2.2.1, h.2.2.2⟩
 ·by_cases h1 : t.k = 1 ∨ t.k = 2
  ·rw [if_pos h1] at h
   simp at h
   simpa using h.2.2
  ·rw [if_neg h1] at h
   by_cases h5 : t.k = 5
   ·rw [if_pos h5] at h
    simp at h
    simpa using h.2.1
   ·simp [h5, h3, h4] at h
theorem regsF_plain {S n : Nat} {t : Ty} (h : lookB S (n + 1) t = true) : decide (regsF (n + 1) t = []) = (!decide (t.k = 4) && (!decide (t.k = 3) || decide (regsF n (in0 t) = []))) := by
 obtain ⟨h3, h0⟩ := look_kind h
 rw [show regsF (n + 1) t = (if t.k = 4 then [t.r] else []) ++ (if t.of.length = 0 then [] else regsF n (in0 t)) from rfl]
 by_cases k4 : t.k = 4
 ·simp [k4]
 ·by_cases k3 : t.k = 3
  ·have := (h3 k3).1
   simp [k3, this]
  ·have := h0 k3 k4
   simp [k4, k3, this]
set_option maxRecDepth 100000 in
set_option maxHeartbeats 16000000 in
theorem rzPlain_any (S : Nat) : ∀ (n : Nat) (t : Ty) (a : Option Addr) (c : Nat) (w : World), lookB S n t = true → TyAt n w t a c →
  Calls Tryz.prog 74 #[tyV t a c] w fun e w' => e = .returned (.bool (decide (regsF n t = []))) ∧ KB F0 w w' := by
 intro n
 induction n with
 | zero => intro t a c w h; cases h
 | succ n ih =>
  intro t a c w hl h
  obtain ⟨w0, rfl⟩ : ∃ w0, w0 = w := ⟨_, rfl⟩
  obtain ⟨W, hW⟩ : ∃ W, W = w0.alloc (.cells #[.int .u8 t.k, .bool t.m, .int .i64 t.r, .int .i64 t.s, .slice a t.of.length c] 26) := ⟨_, rfl⟩
  obtain ⟨kb, hb⟩ := boxTy w0 t a c
  rw [← hW] at kb hb
  have hw := h.kbF kb
  have HB := Lib.hid (And.intro kb hb)
  have HW := Lib.hid hW
  obtain ⟨hc0, hc1, hc2, hc3, hc4⟩ := TyCells.of_block hb
  simp only [Nat.zero_add] at hc0 hc1 hc2 hc3 hc4
  have hLc : t.of.length ≤ c := hw.1
  rw [regsF_plain hl]
  unfold tyV
  by_cases k3 : t.k = 3
  ·obtain ⟨h1, h2⟩ := (look_kind hl).1 k3
   obtain ⟨b, o, a', c', rfl, ic, iw⟩ := hw.in0 (by omega)
   have LK := ih (in0 t) a' c' W h2 iw
   unfold tyV at LK
   obtain ⟨i0, i1, i2, i3, i4⟩ := ic
   have h1c : (1 : Int) ≤ (c : Int) := by omega
   generalize decide (regsF n (in0 t) = []) = q at LK ⊢
   generalize in0 t = u at LK i0 i1 i2 i3 i4
   rw [h1] at HW hc4 ⊢
   rw [k3] at HW hc0 ⊢
   have LK2 := Lib.hid LK
   generalize t.m = m at *
   generalize t.r = rg at *
   generalize t.s = st at *
   have HK := Lib.hid HB.out.1
   clear hw h ih LK iw kb hb hW hl hLc k3 h1 h2 HB
   go_enter Tryz.func74, Tryz.ntmps74
   go_upto_region 1 with fail
   rw [← HW.out]
   go_wp2_with fail
   refine LK2.out.mono ?_
   rintro e w1 ⟨rfl, k1⟩
   have K1 := Lib.hid (HK.out.trans k1)
   clear k1
   cases q
   all_goals
    go_wp2_with fail
    go_ret
    exact ⟨rfl, K1.out⟩
  ·by_cases k4 : t.k = 4
   ·rw [k4] at HW hc0 ⊢
    have HK := Lib.hid HB.out.1
    generalize t.m = m at *
    generalize t.r = rg at *
    generalize t.s = st at *
    generalize t.of.length = L at *
    clear hw h ih kb hb hW hl hLc k3 k4 HB
    go_enter Tryz.func74, Tryz.ntmps74
    go_upto_region 1 with fail
    rw [← HW.out]
    go_wp2_with fail
    go_ret
    exact ⟨rfl, HK.out⟩
   ·have e4 : (t.k != 4) = true := by simpa using k4
    have e3 : (t.k != 3) = true := by simpa using k3
    rw [decide_eq_false k4, decide_eq_false k3]
    have HK := Lib.hid HB.out.1
    generalize t.k = tk at *
    generalize t.m = m at *
    generalize t.r = rg at *
    generalize t.s = st at *
    generalize t.of.length = L at *
    clear hw h ih kb hb hW hl hLc k3 k4 HB
    go_enter Tryz.func74, Tryz.ntmps74
    go_upto_region 1 with fail
    rw [← HW.out]
    go_wp2_with fail
    go_ret
    exact ⟨rfl, HK.out⟩

def badT (n : Nat) (t : Ty) : Bool := !lookB n 48 t
theorem goodS_fds {S : List (List Ty)} (hg : GoodS S) (i : Nat) : (fds S i).length ≤ 1000000 := by have := len8_of hg.b1 i; omega
set_option maxRecDepth 100000 in
set_option maxHeartbeats 16000000 in
theorem walk1_any (S : List (List Ty)) (hg : GoodS S) (sa : Option Addr) (sc : Nat) (hsc : S.length ≤ sc) (nb : Nat) (t : Ty) (ta : Option Addr) (tc : Nat) (w : World) (hn : w.heap[nb]? = some (.cells #[.slice sa S.length sc] 22 (0, 0))) (hS : StsAt 49 w sa S) (ht : TyAt 49 w t ta tc) :
  Calls Tryz.prog 107 #[tyV t ta tc, .pointer (some ⟨nb, 0, none⟩)] w fun e w' => e = .returned (.bool (badT S.length t)) ∧ KB F0 w w' := by
 obtain ⟨w0, rfl⟩ : ∃ w0, w0 = w := ⟨_, rfl⟩
 obtain ⟨W, hW⟩ : ∃ W, W = w0.alloc (.cells #[.int .u8 t.k, .bool t.m, .int .i64 t.r, .int .i64 t.s, .slice ta t.of.length tc] 26) := ⟨_, rfl⟩
 obtain ⟨kb, hb⟩ := boxTy w0 t ta tc
 rw [← hW] at kb hb
 obtain ⟨c0, c1, c2, c3, c4⟩ := TyCells.of_block hb
 simp only [Nat.zero_add] at c0 c1 c2 c3 c4
 have s0 : W.cell? ⟨nb, 0, none⟩ = some (.slice sa S.length sc) := blk_cell (kb.heap (fun x => x) hn) 0
 have MY := Lib.hid (tyMay_any S (by have := hg.len; omega) (goodS_fds hg) sa sc hsc t ta tc W (hS.kbF kb) (ht.kbF kb))
 have HB : Hid (∀ ok : Bool, (ok = true ↔ MayT S t) → badT S.length t = !ok) := Lib.hid (fun ok h => by
  unfold badT
  congr 1
  rw [Bool.eq_iff_iff, h]
  exact ⟨fun x => ⟨hg, x⟩, fun x => x.2⟩)
 have HW := Lib.hid hW
 have HK := Lib.hid kb
 unfold tyV at MY ⊢
 generalize badT S.length t = q at HB ⊢
 generalize S.length = n at *
 generalize MayT S t = P at *
 clear hS ht hb hW kb hn hg
 obtain ⟨fk, hfk⟩ : ∃ x, x = t.k := ⟨_, rfl⟩
 rw [← hfk] at c0 MY HW ⊢
 obtain ⟨fm, hfm⟩ : ∃ x, x = t.m := ⟨_, rfl⟩
 rw [← hfm] at c1 MY HW ⊢
 obtain ⟨fr, hfr⟩ : ∃ x, x = t.r := ⟨_, rfl⟩
 rw [← hfr] at c2 MY HW ⊢
 obtain ⟨fs, hfs⟩ : ∃ x, x = t.s := ⟨_, rfl⟩
 rw [← hfs] at c3 MY HW ⊢
 obtain ⟨N, hN⟩ : ∃ x, x = t.of.length := ⟨_, rfl⟩
 rw [← hN] at c4 MY HW ⊢
 clear hfk hfm hfr hfs hN
 go_enter Tryz.func107, Tryz.ntmps107
 go_upto_region 1 with fail
 rw [← HW.out]
 go_wp2_with fail
 refine MY.out.mono ?_
 rintro e w1 ⟨ok, rfl, ho, k1⟩
 have HQ := Lib.hid (HB.out ok ho)
 have K1 := Lib.hid k1
 clear k1 ho c0 c1 c2 c3 c4 s0
 go_wp2_with fail
 go_ret
 exact ⟨ret_eq (by rw [HQ.out]; rfl), HK.out.trans K1.out⟩
set_option maxRecDepth 100000 in
set_option maxHeartbeats 16000000 in
theorem ixTys_any (S : List (List Ty)) (hg : GoodS S) (sa : Option Addr) (sc : Nat) (hsc : S.length ≤ sc) (nb : Nat) (l : List Ty) (hl : l.length ≤ 1000000) (a : Option Addr) (c : Nat) (w : World) (hn : w.heap[nb]? = some (.cells #[.slice sa S.length sc] 22 (0, 0))) (hS : StsAt 49 w sa S) (h : TysAt 49 w a l) :
  Calls Tryz.prog 144 #[.slice a l.length c, .func (.func 107) #[] #[.pointer (some ⟨nb, 0, none⟩)]] w fun e w' => ∃ k : Int, e = .returned (.int .i64 k) ∧ decide (0 ≤ k) = l.any (badT S.length) ∧ KB F0 w w' := by
 obtain ⟨w0, rfl⟩ : ∃ w0, w0 = w := ⟨_, rfl⟩
 obtain ⟨L, hL⟩ : ∃ L, L = l.length := ⟨_, rfl⟩
 rw [← hL] at hl ⊢
 have HH := Lib.hid (And.intro hn (And.intro h (And.intro hL hS)))
 clear hn h hL hS
 go_enter Tryz.func144, Tryz.ntmps144
 go_wp2_with fail
 go_loopw [8] (fun kv wr => ∃ k : Nat, k ≤ L ∧ kv = .int .i64 (k : Nat) ∧ Hid (KB F0 w0 wr ∧ ∀ j, j < k → badT S.length (l.getD j ty0) = false)) (fun kv _ => L - (intOf kv).toNat)
 case atStart => exact ⟨0, by omega, rfl, Lib.hid ⟨KB.refl _ _, fun j hj => by omega⟩⟩
 case round =>
  obtain ⟨k, hk, rfl, hst⟩ := hrel
  by_cases hlt : k < L
  ·have hkI : (k : Int) < (L : Int) := by omega
   have dk : decide ((k : Int) < (L : Int)) = true := decide_eq_true hkI
   obtain ⟨b, o, a', c', rfl, hty, hta⟩ := HH.out.2.1 k (by rw [← HH.out.2.2.1]; exact hlt)
   obtain ⟨t0, t1, t2, t3, t4⟩ := hty.kbF hst.out.1
   have CL := walk1_any S hg sa sc hsc nb (l.getD k ty0) a' c' wr (hst.out.1.heap (fun x => x) HH.out.1) (HH.out.2.2.2.kbF hst.out.1) (hta.kbF hst.out.1)
   unfold tyV at CL
   obtain ⟨q, hq⟩ : ∃ q, q = badT S.length (l.getD k ty0) := ⟨_, rfl⟩
   rw [← hq] at CL
   have HQ := Lib.hid hq
   have CL2 := Lib.hid CL
   generalize l.getD k ty0 = f at t0 t1 t2 t3 t4 CL2
   clear hty hta CL hq
   generalize f.k = fk at *
   generalize f.m = fm at *
   generalize f.r = fr at *
   generalize f.s = fs at *
   generalize f.of.length = N at *
   go_wp2_with fail
   refine CL2.out.mono ?_
   rintro e w1 ⟨rfl, k1⟩
   have K1 := Lib.hid (hst.out.1.trans k1)
   clear k1 t0 t1 t2 t3 t4
   cases q with
   | true =>
    have HA : Hid (decide ((0 : Int) ≤ (k : Int)) = l.any (badT S.length)) := Lib.hid (by
     rw [any_getD (d := ty0) (by rw [← HH.out.2.2.1]; exact hlt) HQ.out.symm]
     exact decide_eq_true (by omega))
    go_wp2_with fail
    go_ret
    exact ⟨_, rfl, HA.out, K1.out⟩
   | false =>
    have HN : Hid (KB F0 w0 w1 ∧ ∀ j, j < k + 1 → badT S.length (l.getD j ty0) = false) := Lib.hid ⟨K1.out, fun j hj => by
     rcases Nat.lt_or_eq_of_le (Nat.lt_succ_iff.1 hj) with h1 | rfl
     ·exact hst.out.2 j h1
     ·exact HQ.out.symm⟩
    go_wp2_with fail
    exact ⟨⟨k + 1, by omega, by go_num, HN⟩, by simp [intOf]; omega⟩
  ·obtain rfl : k = L := by omega
   have dk : decide ((k : Int) < (k : Int)) = false := decide_eq_false (by omega)
   have HA : Hid (decide ((0 : Int) ≤ -1) = l.any (badT S.length)) := Lib.hid (by
    rw [any_none (d := ty0) (fun i hi => hst.out.2 i (by rw [HH.out.2.2.1]; exact hi))]
    exact decide_eq_false (by omega))
   have HK := Lib.hid hst.out.1
   clear hst
   go_wp2_with fail
   go_ret
   exact ⟨_, rfl, HA.out, HK.out⟩
set_option maxRecDepth 100000 in
set_option maxHeartbeats 16000000 in
theorem ctTys_any (S : List (List Ty)) (hg : GoodS S) (sa : Option Addr) (sc : Nat) (hsc : S.length ≤ sc) (nb : Nat) (l : List Ty) (hl : l.length ≤ 1000000) (a : Option Addr) (c : Nat) (w : World) (hn : w.heap[nb]? = some (.cells #[.slice sa S.length sc] 22 (0, 0))) (hS : StsAt 49 w sa S) (h : TysAt 49 w a l) :
  Calls Tryz.prog 106 #[.slice a l.length c, .func (.func 107) #[] #[.pointer (some ⟨nb, 0, none⟩)]] w fun e w' => e = .returned (.bool (l.any (badT S.length))) ∧ KB F0 w w' := by
 obtain ⟨w0, rfl⟩ : ∃ w0, w0 = w := ⟨_, rfl⟩
 have IX := Lib.hid (ixTys_any S hg sa sc hsc nb l hl a c w0 hn hS h)
 clear hn h hl hS
 generalize l.length = L at IX ⊢
 generalize l.any (badT S.length) = r at IX ⊢
 go_enter Tryz.func106, Tryz.ntmps106
 go_wp2_with fail
 refine IX.out.mono ?_
 rintro e w1 ⟨k, rfl, rfl, hk⟩
 have K := Lib.hid hk
 clear hk IX
 go_wp2_with fail
 all_goals
  go_ret
  exact ⟨ret_eq (by first | rfl | simp_all), K.out⟩

structure Pl where
 loc : Int
 path : List Int

def plV (p : Pl) (a : Option Addr) (c : Nat) : Value := .agg #[.int .i64 p.loc, .slice a p.path.length c]
structure PlAt (w : World) (p : Pl) (a : Option Addr) (c : Nat) : Prop where
 ints : IntsAt w a p.path
 cap : p.path.length ≤ c
 small : p.path.length ≤ 100000
theorem PlAt.kbF {w w' : World} {p : Pl} {a : Option Addr} {c : Nat} (h : PlAt w p a c) (hk : KB F0 w w') : PlAt w' p a c := ⟨h.ints.kb hk (fun _ _ _ x => x), h.cap, h.small⟩
theorem kb_new {w0 w : World} (h : KB F0 w0 w) {b : Nat} (hb : w0.heap.size ≤ b) (i : Nat) (v : Value) : KB F0 w0 (w.setCell ⟨b, i, none⟩ v) :=
 h.setCell (p := ⟨b, i, none⟩) (fun hh => by have h1 : b < w0.heap.size := hh; omega) _
theorem new2 (w0 : World) (cs ds : Array Value) (s t : TypeId) : KB F0 w0 ((w0.alloc (.cells cs s)).alloc (.cells ds t)) ∧
  ((w0.alloc (.cells cs s)).alloc (.cells ds t)).heap[w0.heap.size]? = some (.cells cs s (0, 0)) ∧ ((w0.alloc (.cells cs s)).alloc (.cells ds t)).heap[w0.heap.size + 1]? = some (.cells ds t (0, 0)) := by
 have hs1 : (w0.alloc (.cells cs s)).heap.size = w0.heap.size + 1 := by simp
 exact ⟨((KB.refl _ _).alloc _).alloc _, ((KB.refl F0 _).alloc _).heap (fun x => x) (alloc_new _ _), by rw [← hs1]; exact alloc_new _ _⟩
theorem new3 (w0 : World) (cs ds es : Array Value) (s t u : TypeId) : KB F0 w0 (((w0.alloc (.cells cs s)).alloc (.cells ds t)).alloc (.cells es u)) ∧
  (((w0.alloc (.cells cs s)).alloc (.cells ds t)).alloc (.cells es u)).heap[w0.heap.size]? = some (.cells cs s (0, 0)) ∧ (((w0.alloc (.cells cs s)).alloc (.cells ds t)).alloc (.cells es u)).heap[w0.heap.size + 1]? = some (.cells ds t (0, 0)) ∧
  (((w0.alloc (.cells cs s)).alloc (.cells ds t)).alloc (.cells es u)).heap[w0.heap.size + 1 + 1]? = some (.cells es u (0, 0)) ∧ (((w0.alloc (.cells cs s)).alloc (.cells ds t)).alloc (.cells es u)).heap.size = w0.heap.size + 3 := by
 obtain ⟨k, h1, h2⟩ := new2 w0 cs ds s t
 have hs1 : ((w0.alloc (.cells cs s)).alloc (.cells ds t)).heap.size = w0.heap.size + 1 + 1 := by simp
 exact ⟨k.alloc _, ((KB.refl F0 _).alloc _).heap (fun x => x) h1, ((KB.refl F0 _).alloc _).heap (fun x => x) h2, by rw [← hs1]; exact alloc_new _ _, by simp⟩
def ty0c : Array Value := #[.int .u8 0, .bool false, .int .i64 0, .int .i64 0, .slice none 0 0]
def set5 (w : World) (X : Nat) (v0 v1 v2 v3 v4 : Value) : World := ((((w.setCell ⟨X, 0, none⟩ v0).setCell ⟨X, 1, none⟩ v1).setCell ⟨X, 2, none⟩ v2).setCell ⟨X, 3, none⟩ v3).setCell ⟨X, 4, none⟩ v4
theorem set5_blk {w : World} {X : Nat} {a b c d e : Value} (h : w.heap[X]? = some (.cells #[a, b, c, d, e] 26 (0, 0))) (v0 v1 v2 v3 v4 : Value) : (set5 w X v0 v1 v2 v3 v4).heap[X]? = some (.cells #[v0, v1, v2, v3, v4] 26 (0, 0)) :=
 setCell_blk (i := 4) (setCell_blk (i := 3) (setCell_blk (i := 2) (setCell_blk (i := 1) (setCell_blk (i := 0) h v0) v1) v2) v3) v4
theorem set5_kb (w : World) (X : Nat) (v0 v1 v2 v3 v4 : Value) : KB (· = X) w (set5 w X v0 v1 v2 v3 v4) :=
 ((((kb_set w X 0 v0).trans (kb_set _ X 1 v1)).trans (kb_set _ X 2 v2)).trans (kb_set _ X 3 v3)).trans (kb_set _ X 4 v4)
theorem set5_new {w0 w : World} (h : KB F0 w0 w) {X : Nat} (hX : w0.heap.size ≤ X) (v0 v1 v2 v3 v4 : Value) : KB F0 w0 (set5 w X v0 v1 v2 v3 v4) :=
 kb_new (kb_new (kb_new (kb_new (kb_new h hX 0 _) hX 1 _) hX 2 _) hX 3 _) hX 4 _
theorem arr5 {cs : Array Value} (h : cs.size = 5) : ∃ a b c d e, cs = #[a, b, c, d, e] := by
 obtain ⟨l⟩ := cs
 match l, h with
 | [a, b, c, d, e], _ => exact ⟨a, b, c, d, e, rfl⟩
end Go.Proofs.YtaeppaaolkcbbaaGreatDoor

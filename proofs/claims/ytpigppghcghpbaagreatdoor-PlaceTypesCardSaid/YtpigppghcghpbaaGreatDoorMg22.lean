/- types.May, may; lists of types asked; loanwordref09.Types. place.walk$1, locals asked. -/
import Derived.Test.YtpigppghcghpbaaGreatDoorMg21
namespace Go.Proofs.YtpigppghcghpbaaGreatDoor
open Go.RowKit

/-- A type among structs that may be. -/
def MayT (S : List (List Ty)) (t : Ty) : Prop := GoodS S ∧ lookB S.length 48 t = true
def BoolEnd (P : Prop) (w : World) (e : Ending) (w' : World) : Prop := ∃ ok : Bool, e = .returned (.bool ok) ∧ (ok = true ↔ P) ∧ KB F0 w w'
set_option maxRecDepth 100000 in
set_option maxHeartbeats 16000000 in
theorem tyMay_any (S : List (List Ty)) (hn : S.length ≤ 1000000) (hl : ∀ i, (fds S i).length ≤ 1000000) (a : Option Addr) (c : Nat) (hc : S.length ≤ c) (t : Ty) (ta : Option Addr) (tc : Nat) (w : World) (h : StsAt 49 w a S) (ht : TyAt 49 w t ta tc) :
    Calls Tryz.prog 60 #[.slice a S.length c, tyV t ta tc] w (BoolEnd (MayT S t) w) := by
  obtain ⟨w0, rfl⟩ : ∃ w0, w0 = w := ⟨_, rfl⟩
  obtain ⟨W, hW⟩ : ∃ W, W = w0.alloc (.cells #[.int .u8 t.k, .bool t.m, .int .i64 t.r, .int .i64 t.s, .slice ta t.of.length tc] 36) := ⟨_, rfl⟩
  obtain ⟨kb, hb⟩ := boxTy w0 t ta tc
  rw [← hW] at kb hb
  obtain ⟨c0, c1, c2, c3, c4⟩ := TyCells.of_block hb
  simp only [Nat.zero_add] at c0 c1 c2 c3 c4
  have ST := Lib.hid (tyStructs_any S hn hl a c hc W (h.kbF kb))
  have LK := Lib.hid (fun (V : World) (hk : KB F0 W V) => look_any S.length 48 (by omega) t ta tc V (ht.kbF (kb.trans hk)))
  obtain ⟨q, hq⟩ : ∃ q, q = lookB S.length 48 t := ⟨_, rfl⟩
  have HP : Hid (MayT S t = (GoodS S ∧ q = true)) := Lib.hid (by rw [hq]; rfl)
  rw [← hq] at LK
  rw [HP.out]
  have HW := Lib.hid hW
  have HK := Lib.hid kb
  unfold tyV at LK ⊢
  generalize S.length = n at *
  clear h ht hb hW hq HP kb
  obtain ⟨fk, hfk⟩ : ∃ x, x = t.k := ⟨_, rfl⟩
  rw [← hfk] at c0 LK HW ⊢
  obtain ⟨fm, hfm⟩ : ∃ x, x = t.m := ⟨_, rfl⟩
  rw [← hfm] at c1 LK HW ⊢
  obtain ⟨fr, hfr⟩ : ∃ x, x = t.r := ⟨_, rfl⟩
  rw [← hfr] at c2 LK HW ⊢
  obtain ⟨fs, hfs⟩ : ∃ x, x = t.s := ⟨_, rfl⟩
  rw [← hfs] at c3 LK HW ⊢
  obtain ⟨N, hN⟩ : ∃ x, x = t.of.length := ⟨_, rfl⟩
  rw [← hN] at c4 LK HW ⊢
  clear hfk hfm hfr hfs hN
  go_enter Tryz.func60, Tryz.ntmps60
  go_upto_region 1 with fail
  rw [← HW.out]
  go_wp2_with fail
  refine ST.out.mono ?_
  rintro e w1 ⟨at_, ok, rfl, hE, k1⟩
  have HE := Lib.hid hE.good
  have K1 := Lib.hid k1
  have d0 := k1.cell (p := ⟨w0.heap.size, 0, none⟩) (fun x => x) c0
  have d1 := k1.cell (p := ⟨w0.heap.size, 1, none⟩) (fun x => x) c1
  have d2 := k1.cell (p := ⟨w0.heap.size, 2, none⟩) (fun x => x) c2
  have d3 := k1.cell (p := ⟨w0.heap.size, 3, none⟩) (fun x => x) c3
  have d4 := k1.cell (p := ⟨w0.heap.size, 4, none⟩) (fun x => x) c4
  clear k1 hE c0 c1 c2 c3 c4
  cases ok with
  | false =>
    simp only [stErr]
    go_wp2_with fail
    go_ret
    exact ⟨false, rfl, ⟨fun h => (by cases h), fun h => by have := HE.out.2 h.1; cases this⟩, HK.out.trans K1.out⟩
  | true =>
    simp only [stErr]
    go_wp2_with fail
    refine (LK.out _ K1.out).mono ?_
    rintro e w2 ⟨rfl, k2⟩
    have K2 := Lib.hid k2
    clear k2 d0 d1 d2 d3 d4
    go_wp2_with fail
    go_ret
    exact ⟨q, rfl, ⟨fun h => ⟨HE.out.1 trivial, h⟩, fun h => h.2⟩, HK.out.trans (K1.out.trans K2.out)⟩
set_option maxRecDepth 100000 in
set_option maxHeartbeats 16000000 in
theorem tymay_any (t : Ty) (ta : Option Addr) (tc : Nat) (w : World) (ht : TyAt 49 w t ta tc) :
    Calls Tryz.prog 72 #[tyV t ta tc] w fun e w' => e = .returned (.bool (lookB 32 48 t)) ∧ KB F0 w w' := by
  obtain ⟨w0, rfl⟩ : ∃ w0, w0 = w := ⟨_, rfl⟩
  obtain ⟨W, hW⟩ : ∃ W, W = w0.alloc (.cells #[.int .u8 t.k, .bool t.m, .int .i64 t.r, .int .i64 t.s, .slice ta t.of.length tc] 36) := ⟨_, rfl⟩
  obtain ⟨kb, hb⟩ := boxTy w0 t ta tc
  rw [← hW] at kb hb
  obtain ⟨c0, c1, c2, c3, c4⟩ := TyCells.of_block hb
  simp only [Nat.zero_add] at c0 c1 c2 c3 c4
  have LK := Lib.hid (look_any 32 48 (by omega) t ta tc W (ht.kbF kb))
  generalize lookB 32 48 t = q at *
  have HW := Lib.hid hW
  have HK := Lib.hid kb
  unfold tyV at LK ⊢
  clear ht hb hW kb
  obtain ⟨fk, hfk⟩ : ∃ x, x = t.k := ⟨_, rfl⟩
  rw [← hfk] at c0 LK HW ⊢
  obtain ⟨fm, hfm⟩ : ∃ x, x = t.m := ⟨_, rfl⟩
  rw [← hfm] at c1 LK HW ⊢
  obtain ⟨fr, hfr⟩ : ∃ x, x = t.r := ⟨_, rfl⟩
  rw [← hfr] at c2 LK HW ⊢
  obtain ⟨fs, hfs⟩ : ∃ x, x = t.s := ⟨_, rfl⟩
  rw [← hfs] at c3 LK HW ⊢
  obtain ⟨N, hN⟩ : ∃ x, x = t.of.length := ⟨_, rfl⟩
  rw [← hN] at c4 LK HW ⊢
  clear hfk hfm hfr hfs hN
  go_enter Tryz.func72, Tryz.ntmps72
  go_upto_region 1 with fail
  rw [← HW.out]
  go_wp2_with fail
  refine LK.out.mono ?_
  rintro e w1 ⟨rfl, k1⟩
  have K1 := Lib.hid k1
  clear k1 c0 c1 c2 c3 c4
  go_wp2_with fail
  go_ret
  exact ⟨rfl, HK.out.trans K1.out⟩
/-- All types of a list. -/
def AllT (S : List (List Ty)) (l : List Ty) : Prop := GoodS S ∧ ∀ t ∈ l, lookB S.length 48 t = true
set_option maxRecDepth 100000 in
set_option maxHeartbeats 16000000 in
theorem rtTypes_any (S : List (List Ty)) (hn : S.length ≤ 1000000) (hl : ∀ i, (fds S i).length ≤ 1000000) (a : Option Addr) (c : Nat) (l : List Ty) (hll : l.length ≤ 1000000) (la : Option Addr) (lc : Nat) (w : World) (h : StsAt 49 w a S) (hlt : TysAt 49 w la l) :
    Calls Tryz.prog 38 #[.slice a S.length c, .slice la l.length lc] w (BoolEnd (AllT S l) w) := by
  obtain ⟨w0, rfl⟩ : ∃ w0, w0 = w := ⟨_, rfl⟩
  have ST := Lib.hid (rtStructs_any S hn hl a c w0 h)
  obtain ⟨n, hnn⟩ : ∃ n, n = S.length := ⟨_, rfl⟩
  obtain ⟨N, hN⟩ : ∃ N, N = l.length := ⟨_, rfl⟩
  rw [← hnn] at ST ⊢
  rw [← hN] at hll ⊢
  have HH := Lib.hid (And.intro hlt (And.intro hnn hN))
  clear h hlt hnn hN hl hn
  go_enter Tryz.func38, Tryz.ntmps38
  go_wp2_with fail
  refine ST.out.mono ?_
  rintro e w1 ⟨ok, rfl, hg, k1⟩
  have HG := Lib.hid hg
  have K1 := Lib.hid k1
  clear hg k1
  cases ok with
  | false =>
    go_wp2_with fail
    go_ret
    exact ⟨false, rfl, ⟨fun h => (by cases h), fun h => by have := HG.out.2 h.1; cases this⟩, K1.out⟩
  | true =>
    go_wp2_with fail
    go_loopg [5] N (fun g iv wr => ∃ i, i ≤ N ∧ g = N - i ∧ iv = .int .i64 (i : Nat) ∧ Hid (KB F0 w0 wr ∧ ∀ j, j < i → lookB S.length 48 (l.getD j ty0) = true))
    case atStart => exact ⟨0, by omega, by omega, rfl, Lib.hid ⟨K1.out, fun j hj => by omega⟩⟩
    case round =>
      obtain ⟨i, hi, rfl, rfl, hst⟩ := hrel
      by_cases hit : i < N
      · have hiI : (i : Int) < (N : Int) := by omega
        have dI : decide ((i : Int) < (N : Int)) = true := decide_eq_true hiI
        obtain ⟨fb, fo, fa', fc', rfl, hty, hta⟩ := HH.out.1 i (by rw [← HH.out.2.2]; exact hit)
        obtain ⟨t0, t1, t2, t3, t4⟩ := hty.kbF hst.out.1
        have CL := rtMay_any S.length true 48 (by omega) (l.getD i ty0) fa' fc' wr (hta.kbF hst.out.1)
        rw [mayB_look] at CL
        unfold tyV at CL
        rw [← HH.out.2.1] at CL
        obtain ⟨z, hz⟩ : ∃ z, z = lookB n 48 (l.getD i ty0) := ⟨_, rfl⟩
        rw [← hz] at CL
        have HZ := Lib.hid (show lookB S.length 48 (l.getD i ty0) = z from by rw [hz, HH.out.2.1])
        have CL2 := Lib.hid CL
        generalize l.getD i ty0 = f at t0 t1 t2 t3 t4 CL2
        clear hty hta CL hz
        obtain ⟨fk, hfk⟩ : ∃ x, x = f.k := ⟨_, rfl⟩
        rw [← hfk] at t0 CL2
        obtain ⟨fm, hfm⟩ : ∃ x, x = f.m := ⟨_, rfl⟩
        rw [← hfm] at t1 CL2
        obtain ⟨fr, hfr⟩ : ∃ x, x = f.r := ⟨_, rfl⟩
        rw [← hfr] at t2 CL2
        obtain ⟨fs, hfs⟩ : ∃ x, x = f.s := ⟨_, rfl⟩
        rw [← hfs] at t3 CL2
        obtain ⟨M, hM⟩ : ∃ x, x = f.of.length := ⟨_, rfl⟩
        rw [← hM] at t4 CL2
        clear hfk hfm hfr hfs hM
        go_wp2_with fail
        refine CL2.out.mono ?_
        rintro e w2 ⟨rfl, k2⟩
        have K2 := Lib.hid (hst.out.1.trans k2)
        clear k2 t0 t1 t2 t3 t4 CL2
        cases z with
        | true =>
          have HN : Hid (KB F0 w0 w2 ∧ ∀ j, j < i + 1 → lookB S.length 48 (l.getD j ty0) = true) := Lib.hid ⟨K2.out, fun j hj => by
            rcases Nat.lt_or_eq_of_le (Nat.lt_succ_iff.1 hj) with h1 | rfl
            · exact hst.out.2 j h1
            · exact HZ.out⟩
          go_wp2_with fail
          go_roundg (N - (i + 1))
          case measure => omega
          case rel => exact ⟨i + 1, by omega, rfl, by go_num, HN⟩
        | false =>
          have HX : Hid (¬ AllT S l) := Lib.hid (fun h => by
            have hil : i < l.length := by rw [← HH.out.2.2]; exact hit
            have hm : l.getD i ty0 ∈ l := by rw [List.getD_eq_getElem?_getD, List.getElem?_eq_getElem hil]; exact List.getElem_mem hil
            have := h.2 _ hm
            rw [HZ.out] at this; cases this)
          go_wp2_with fail
          go_ret
          exact ⟨false, rfl, ⟨fun h => (by cases h), fun h => (HX.out h).elim⟩, K2.out⟩
      · obtain rfl : i = N := by omega
        have dI : decide ((i : Int) < (i : Int)) = false := decide_eq_false (by omega)
        have HX : Hid (AllT S l) := Lib.hid ⟨HG.out.1 trivial, fun t ht => by
          obtain ⟨j, hj, rfl⟩ := List.getElem_of_mem ht
          have := hst.out.2 j (by rw [HH.out.2.2]; exact hj)
          rw [List.getD_eq_getElem?_getD, List.getElem?_eq_getElem hj] at this
          exact this⟩
        have K9 := Lib.hid hst.out.1
        clear hst
        go_wp2_with fail
        go_ret
        exact ⟨true, rfl, ⟨fun _ => HX.out, fun _ => rfl⟩, K9.out⟩
end Go.Proofs.YtpigppghcghpbaaGreatDoor

namespace Go.Proofs.YtpigppghcghpbaaGreatDoor
open Go.RowKit

def badT (n : Nat) (t : Ty) : Bool := !lookB n 48 t
theorem goodS_fds {S : List (List Ty)} (hg : GoodS S) (i : Nat) : (fds S i).length ≤ 1000000 := by have := len8_of hg.b1 i; omega
set_option maxRecDepth 100000 in
set_option maxHeartbeats 16000000 in
theorem walk1_any (S : List (List Ty)) (hg : GoodS S) (sa : Option Addr) (sc : Nat) (hsc : S.length ≤ sc) (nb : Nat) (t : Ty) (ta : Option Addr) (tc : Nat) (w : World) (hn : w.heap[nb]? = some (.cells #[.slice sa S.length sc] 22 (0, 0))) (hS : StsAt 49 w sa S) (ht : TyAt 49 w t ta tc) :
    Calls Tryz.prog 59 #[tyV t ta tc, .pointer (some ⟨nb, 0, none⟩)] w fun e w' => e = .returned (.bool (badT S.length t)) ∧ KB F0 w w' := by
  obtain ⟨w0, rfl⟩ : ∃ w0, w0 = w := ⟨_, rfl⟩
  obtain ⟨W, hW⟩ : ∃ W, W = w0.alloc (.cells #[.int .u8 t.k, .bool t.m, .int .i64 t.r, .int .i64 t.s, .slice ta t.of.length tc] 36) := ⟨_, rfl⟩
  obtain ⟨kb, hb⟩ := boxTy w0 t ta tc
  rw [← hW] at kb hb
  obtain ⟨c0, c1, c2, c3, c4⟩ := TyCells.of_block hb
  simp only [Nat.zero_add] at c0 c1 c2 c3 c4
  have s0 : W.cell? ⟨nb, 0, none⟩ = some (.slice sa S.length sc) := blk_cell (kb.heap (fun x => x) hn) 0
  have MY := Lib.hid (tyMay_any S (by have := hg.len; omega) (goodS_fds hg) sa sc hsc t ta tc W (hS.kbF kb) (ht.kbF kb))
  have HB : Hid (∀ ok : Bool, (ok = true ↔ MayT S t) → badT S.length t = !ok) := Lib.hid (fun ok h => by
    unfold badT
    congr 1
    rw [Bool.eq_iff_iff, h]
    exact ⟨fun x => ⟨hg, x⟩, fun x => x.2⟩)
  have HW := Lib.hid hW
  have HK := Lib.hid kb
  unfold tyV at MY ⊢
  generalize badT S.length t = q at HB ⊢
  generalize S.length = n at *
  generalize MayT S t = P at *
  clear hS ht hb hW kb hn hg
  obtain ⟨fk, hfk⟩ : ∃ x, x = t.k := ⟨_, rfl⟩
  rw [← hfk] at c0 MY HW ⊢
  obtain ⟨fm, hfm⟩ : ∃ x, x = t.m := ⟨_, rfl⟩
  rw [← hfm] at c1 MY HW ⊢
  obtain ⟨fr, hfr⟩ : ∃ x, x = t.r := ⟨_, rfl⟩
  rw [← hfr] at c2 MY HW ⊢
  obtain ⟨fs, hfs⟩ : ∃ x, x = t.s := ⟨_, rfl⟩
  rw [← hfs] at c3 MY HW ⊢
  obtain ⟨N, hN⟩ : ∃ x, x = t.of.length := ⟨_, rfl⟩
  rw [← hN] at c4 MY HW ⊢
  clear hfk hfm hfr hfs hN
  go_enter Tryz.func59, Tryz.ntmps59
  go_upto_region 1 with fail
  rw [← HW.out]
  go_wp2_with fail
  refine MY.out.mono ?_
  rintro e w1 ⟨ok, rfl, ho, k1⟩
  have HQ := Lib.hid (HB.out ok ho)
  have K1 := Lib.hid k1
  clear k1 ho c0 c1 c2 c3 c4 s0
  go_wp2_with fail
  go_ret
  exact ⟨ret_eq (by rw [HQ.out]; rfl), HK.out.trans K1.out⟩
set_option maxRecDepth 100000 in
set_option maxHeartbeats 16000000 in
theorem ixTys_any (S : List (List Ty)) (hg : GoodS S) (sa : Option Addr) (sc : Nat) (hsc : S.length ≤ sc) (nb : Nat) (l : List Ty) (hl : l.length ≤ 1000000) (a : Option Addr) (c : Nat) (w : World) (hn : w.heap[nb]? = some (.cells #[.slice sa S.length sc] 22 (0, 0))) (hS : StsAt 49 w sa S) (h : TysAt 49 w a l) :
    Calls Tryz.prog 84 #[.slice a l.length c, .func (.func 59) #[] #[.pointer (some ⟨nb, 0, none⟩)]] w fun e w' => ∃ k : Int, e = .returned (.int .i64 k) ∧ decide (0 ≤ k) = l.any (badT S.length) ∧ KB F0 w w' := by
  obtain ⟨w0, rfl⟩ : ∃ w0, w0 = w := ⟨_, rfl⟩
  obtain ⟨L, hL⟩ : ∃ L, L = l.length := ⟨_, rfl⟩
  rw [← hL] at hl ⊢
  have HH := Lib.hid (And.intro hn (And.intro h (And.intro hL hS)))
  clear hn h hL hS
  go_enter Tryz.func84, Tryz.ntmps84
  go_wp2_with fail
  go_loopw [8] (fun kv wr => ∃ k : Nat, k ≤ L ∧ kv = .int .i64 (k : Nat) ∧ Hid (KB F0 w0 wr ∧ ∀ j, j < k → badT S.length (l.getD j ty0) = false)) (fun kv _ => L - (intOf kv).toNat)
  case atStart => exact ⟨0, by omega, rfl, Lib.hid ⟨KB.refl _ _, fun j hj => by omega⟩⟩
  case round =>
    obtain ⟨k, hk, rfl, hst⟩ := hrel
    by_cases hlt : k < L
    · have hkI : (k : Int) < (L : Int) := by omega
      have dk : decide ((k : Int) < (L : Int)) = true := decide_eq_true hkI
      obtain ⟨b, o, a', c', rfl, hty, hta⟩ := HH.out.2.1 k (by rw [← HH.out.2.2.1]; exact hlt)
      obtain ⟨t0, t1, t2, t3, t4⟩ := hty.kbF hst.out.1
      have CL := walk1_any S hg sa sc hsc nb (l.getD k ty0) a' c' wr (hst.out.1.heap (fun x => x) HH.out.1) (HH.out.2.2.2.kbF hst.out.1) (hta.kbF hst.out.1)
      unfold tyV at CL
      obtain ⟨q, hq⟩ : ∃ q, q = badT S.length (l.getD k ty0) := ⟨_, rfl⟩
      rw [← hq] at CL
      have HQ := Lib.hid hq
      have CL2 := Lib.hid CL
      generalize l.getD k ty0 = f at t0 t1 t2 t3 t4 CL2
      clear hty hta CL hq
      generalize f.k = fk at *
      generalize f.m = fm at *
      generalize f.r = fr at *
      generalize f.s = fs at *
      generalize f.of.length = N at *
      go_wp2_with fail
      refine CL2.out.mono ?_
      rintro e w1 ⟨rfl, k1⟩
      have K1 := Lib.hid (hst.out.1.trans k1)
      clear k1 t0 t1 t2 t3 t4
      cases q with
      | true =>
        have HA : Hid (decide ((0 : Int) ≤ (k : Int)) = l.any (badT S.length)) := Lib.hid (by
          rw [any_getD (d := ty0) (by rw [← HH.out.2.2.1]; exact hlt) HQ.out.symm]
          exact decide_eq_true (by omega))
        go_wp2_with fail
        go_ret
        exact ⟨_, rfl, HA.out, K1.out⟩
      | false =>
        have HN : Hid (KB F0 w0 w1 ∧ ∀ j, j < k + 1 → badT S.length (l.getD j ty0) = false) := Lib.hid ⟨K1.out, fun j hj => by
          rcases Nat.lt_or_eq_of_le (Nat.lt_succ_iff.1 hj) with h1 | rfl
          · exact hst.out.2 j h1
          · exact HQ.out.symm⟩
        go_wp2_with fail
        exact ⟨⟨k + 1, by omega, by go_num, HN⟩, by simp [intOf]; omega⟩
    · obtain rfl : k = L := by omega
      have dk : decide ((k : Int) < (k : Int)) = false := decide_eq_false (by omega)
      have HA : Hid (decide ((0 : Int) ≤ -1) = l.any (badT S.length)) := Lib.hid (by
        rw [any_none (d := ty0) (fun i hi => hst.out.2 i (by rw [HH.out.2.2.1]; exact hi))]
        exact decide_eq_false (by omega))
      have HK := Lib.hid hst.out.1
      clear hst
      go_wp2_with fail
      go_ret
      exact ⟨_, rfl, HA.out, HK.out⟩
set_option maxRecDepth 100000 in
set_option maxHeartbeats 16000000 in
theorem ctTys_any (S : List (List Ty)) (hg : GoodS S) (sa : Option Addr) (sc : Nat) (hsc : S.length ≤ sc) (nb : Nat) (l : List Ty) (hl : l.length ≤ 1000000) (a : Option Addr) (c : Nat) (w : World) (hn : w.heap[nb]? = some (.cells #[.slice sa S.length sc] 22 (0, 0))) (hS : StsAt 49 w sa S) (h : TysAt 49 w a l) :
    Calls Tryz.prog 58 #[.slice a l.length c, .func (.func 59) #[] #[.pointer (some ⟨nb, 0, none⟩)]] w fun e w' => e = .returned (.bool (l.any (badT S.length))) ∧ KB F0 w w' := by
  obtain ⟨w0, rfl⟩ : ∃ w0, w0 = w := ⟨_, rfl⟩
  have IX := Lib.hid (ixTys_any S hg sa sc hsc nb l hl a c w0 hn hS h)
  clear hn h hl hS
  generalize l.length = L at IX ⊢
  generalize l.any (badT S.length) = r at IX ⊢
  go_enter Tryz.func58, Tryz.ntmps58
  go_wp2_with fail
  refine IX.out.mono ?_
  rintro e w1 ⟨k, rfl, rfl, hk⟩
  have K := Lib.hid hk
  clear hk IX
  go_wp2_with fail
  all_goals
    go_ret
    exact ⟨ret_eq (by first | rfl | simp_all), K.out⟩
end Go.Proofs.YtpigppghcghpbaaGreatDoor

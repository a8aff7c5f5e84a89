/- loanwordref23.Class, Size, words, lies, Field. A drawn region within which elements are appended to a slice of the call's own. -/
import Derived.Test.YtaeppaaolkcbbaaGreatDoorMg15
import Derived.Test.YtaeppaaolkcbbaaGreatDoorMg09
import Derived.Test.YtaeppaaolkcbbaaGreatDoorMg07
import Derived.Test.YtaeppaaolkcbbaaGreatDoorMg02
import Derived.Laws.OwnMore
namespace Go.Proofs.YtaeppaaolkcbbaaGreatDoor
open Go.RowKit

set_option maxRecDepth 100000 in
set_option maxHeartbeats 8000000 in
theorem rlClass_at (c : Int) (R : Nat) (hR4 : R ≤ 4) (key : ∀ k, k < R → pw2 k < c) (fin : 1 ≤ c ∧ c ≤ pw2 R) (h16 : c ≤ 16) (w : World) :
  Calls Tryz.prog 10 #[.int .i64 c] w fun e w' => e = .returned (.tuple #[.int .i64 (R : Nat), .int .i64 0]) ∧ KB F0 w w' := by
 obtain ⟨w0, rfl⟩ : ∃ w0, w0 = w := ⟨_, rfl⟩
 have d1 : decide (c < 1) = false := decide_eq_false (by omega)
 have d2 : decide ((16 : Int) < c) = false := decide_eq_false (by omega)
 have HK := Lib.hid (And.intro key fin)
 clear key fin
 go_enter Tryz.func10, Tryz.ntmps10
 go_wp2_with fail
 go_loopw [4] (fun kv wr => ∃ k : Nat, k ≤ R ∧ kv = .int .i64 (k : Nat) ∧ Hid (KB F0 w0 wr)) (fun kv _ => R - (intOf kv).toNat)
 case atStart => exact ⟨0, by omega, rfl, Lib.hid (KB.refl _ _)⟩
 case round =>
  obtain ⟨k, hk, rfl, hst⟩ := hrel
  by_cases hkR : k < R
  ·have h1 := HK.out.1 k hkR
   obtain rfl | rfl | rfl | rfl : k = 0 ∨ k = 1 ∨ k = 2 ∨ k = 3 := by omega
   all_goals
    simp only [pw2, List.getD_cons_zero, List.getD_cons_succ] at h1
    go_wp2_with fail
    go_roundw
    case rel => exact ⟨_, hkR, by first | rfl | go_num, hst⟩
    case measure => simp [intOf]; omega
  ·obtain rfl : k = R := by omega
   have hfin := HK.out.2.2
   obtain rfl | rfl | rfl | rfl | rfl : k = 0 ∨ k = 1 ∨ k = 2 ∨ k = 3 ∨ k = 4 := by omega
   all_goals
    simp only [pw2, List.getD_cons_zero, List.getD_cons_succ] at hfin
    go_wp2_with fail
    go_ret2
    exact ⟨rfl, hst.out⟩
set_option maxRecDepth 100000 in
set_option maxHeartbeats 8000000 in
theorem rlClass_no (c : Int) (h : c < 1 ∨ 16 < c) (w : World) : Calls Tryz.prog 10 #[.int .i64 c] w fun e w' => e = .returned (.tuple #[.int .i64 0, .int .i64 2]) ∧ KB F0 w w' := by
 by_cases h1 : c < 1
 ·go_enter Tryz.func10, Tryz.ntmps10
  go_wp2_with fail
  go_ret2
  exact ⟨rfl, KB.refl _ _⟩
 ·have h2 : (16 : Int) < c := by omega
  go_enter Tryz.func10, Tryz.ntmps10
  go_wp2_with fail
  go_ret2
  exact ⟨rfl, KB.refl _ _⟩
theorem rlClass_any (c : Int) (w : World) : Calls Tryz.prog 10 #[.int .i64 c] w fun e w' => e = .returned (.tuple #[.int .i64 (clsW c).1, .int .i64 (clsW c).2]) ∧ KB F0 w w' := by
 have P : ∀ (R : Nat) (hR4 : R ≤ 4) (key : ∀ k, k < R → pw2 k < c) (fin : 1 ≤ c ∧ c ≤ pw2 R) (h16 : c ≤ 16), clsW c = (((R : Nat) : Int), (0 : Int)) →
   Calls Tryz.prog 10 #[.int .i64 c] w fun e w' => e = .returned (.tuple #[.int .i64 (clsW c).1, .int .i64 (clsW c).2]) ∧ KB F0 w w' := fun R h1 h2 h3 h16 h4 => by
  rw [h4]; exact rlClass_at c R h1 h2 h3 h16 w
 have q0 : pw2 0 = 1 := rfl
 have q1 : pw2 1 = 2 := rfl
 have q2 : pw2 2 = 4 := rfl
 have q3 : pw2 3 = 8 := rfl
 have q4 : pw2 4 = 16 := rfl
 by_cases h0 : c < 1 ∨ 16 < c
 ·have e : clsW c = (0, 2) := by unfold clsW; (repeat' split) <;> first | rfl | omega
  rw [e]; exact rlClass_no c h0 w
 by_cases h1 : c ≤ 1
 ·exact P 0 (by omega) (fun k hk => by omega) ⟨by omega, by omega⟩ (by omega) (by unfold clsW; (repeat' split) <;> first | rfl | omega)
 by_cases h2 : c ≤ 2
 ·exact P 1 (by omega) (fun k hk => by obtain rfl : k = 0 := by omega
                                       omega) ⟨by omega, by omega⟩ (by omega) (by unfold clsW; (repeat' split) <;> first | rfl | omega)
 by_cases h4 : c ≤ 4
 ·exact P 2 (by omega) (fun k hk => by obtain rfl | rfl : k = 0 ∨ k = 1 := by omega
                                       all_goals omega) ⟨by omega, by omega⟩ (by omega) (by unfold clsW; (repeat' split) <;> first | rfl | omega)
 by_cases h8 : c ≤ 8
 ·exact P 3 (by omega) (fun k hk => by obtain rfl | rfl | rfl : k = 0 ∨ k = 1 ∨ k = 2 := by omega
                                       all_goals omega) ⟨by omega, by omega⟩ (by omega) (by unfold clsW; (repeat' split) <;> first | rfl | omega)
 ·exact P 4 (by omega) (fun k hk => by obtain rfl | rfl | rfl | rfl : k = 0 ∨ k = 1 ∨ k = 2 ∨ k = 3 := by omega
                                       all_goals omega) ⟨by omega, by omega⟩ (by omega) (by unfold clsW; (repeat' split) <;> first | rfl | omega)
set_option maxRecDepth 100000 in
set_option maxHeartbeats 8000000 in
theorem rlSize_any (c : Int) (w : World) : Calls Tryz.prog 12 #[.int .i64 c] w fun e w' => e = .returned (.tuple #[.int .i64 (sizW c).1, .int .i64 (sizW c).2]) ∧ KB F0 w w' := by
 by_cases h : c < 0
 ·rw [show sizW c = (0, 2) from by unfold sizW; (repeat' split) <;> first | rfl | omega]
  go_enter Tryz.func12, Tryz.ntmps12
  go_wp2_with fail
  go_ret2
  exact ⟨rfl, KB.refl _ _⟩
 by_cases h5 : 5 ≤ c
 ·rw [show sizW c = (0, 2) from by unfold sizW; (repeat' split) <;> first | rfl | omega]
  go_enter Tryz.func12, Tryz.ntmps12
  go_wp2_with fail
  go_ret2
  exact ⟨rfl, KB.refl _ _⟩
 obtain rfl | rfl | rfl | rfl | rfl : c = 0 ∨ c = 1 ∨ c = 2 ∨ c = 3 ∨ c = 4 := by omega
 all_goals
  clear h h5
  rw [show sizW _ = (_, _) from rfl]
  go_enter Tryz.func12, Tryz.ntmps12
  go_wp2_with fail
  go_ret2
  exact ⟨rfl, KB.refl _ _⟩
set_option maxRecDepth 100000 in
set_option maxHeartbeats 16000000 in
theorem rlwords_any (S : List (List Ty)) (hg : GoodS S) (a : Option Addr) (c : Nat) (t : Ty) (hl : lookB S.length 48 t = true) (ta : Option Addr) (tc : Nat) (w : World) (h : StsAt 49 w a S) (ht : TyAt 49 w t ta tc) :
  Calls Tryz.prog 51 #[.slice a S.length c, tyV t ta tc] w fun e w' => e = .returned (.int .i64 (wF S 34 t : Nat)) ∧ KB F0 w w' := by
 obtain ⟨w0, rfl⟩ : ∃ w0, w0 = w := ⟨_, rfl⟩
 obtain ⟨W, hW⟩ : ∃ W, W = w0.alloc (.cells #[.int .u8 t.k, .bool t.m, .int .i64 t.r, .int .i64 t.s, .slice ta t.of.length tc] 26) := ⟨_, rfl⟩
 obtain ⟨kb, hb⟩ := boxTy w0 t ta tc
 rw [← hW] at kb hb
 have hlen := hg.len
 have WD := Lib.hid (rzW_any S (by omega) (fun i => by have := hg.len8 i; omega) a c t ta tc W (h.kbF kb) (ht.kbF kb))
 have HM : Hid (MayT S t) := Lib.hid ⟨hg, hl⟩
 have HW := Lib.hid hW
 have HB := Lib.hid kb
 obtain ⟨c0, c1, c2, c3, c4⟩ := TyCells.of_block hb
 simp only [Nat.zero_add] at c0 c1 c2 c3 c4
 unfold tyV at WD ⊢
 obtain ⟨LS, hLS⟩ : ∃ L, L = S.length := ⟨_, rfl⟩
 rw [← hLS] at WD ⊢
 clear kb hb hW h ht hLS hlen hg hl
 go_enter Tryz.func51, Tryz.ntmps51
 go_upto_region 1 with fail
 rw [← HW.out]
 go_wp2_with fail
 refine WD.out.mono ?_
 intro e w1 hq
 obtain ⟨rfl, k1⟩ : e = .returned (.tuple #[.int .i64 (wF S 34 t : Nat), .int .i64 0]) ∧ KB F0 W w1 := by
  rcases hq with ⟨-, h1, h2⟩ | ⟨h, -⟩
  ·exact ⟨h1, h2⟩
  ·exact absurd HM.out h
 have K1 := Lib.hid (HB.out.trans k1)
 clear k1 hq c0 c1 c2 c3 c4
 go_wp2_with fail
 go_ret
 exact ⟨rfl, K1.out⟩
set_option maxRecDepth 100000 in
set_option maxHeartbeats 32000000 in
theorem rllies_any (S : List (List Ty)) (hg : GoodS S) (a : Option Addr) (c : Nat) (u : Nat) (hu : u < S.length) (K : Nat) (hK : K ≤ (fds S u).length) (w : World) (h : StsAt 49 w a S) :
  Calls Tryz.prog 38 #[.slice a S.length c, .int .i64 (u : Nat), .int .i64 (K : Nat)] w fun e w' => e = .returned (.int .i64 (wsum S 34 u K : Nat)) ∧ KB F0 w w' := by
 obtain ⟨w0, rfl⟩ : ∃ w0, w0 = w := ⟨_, rfl⟩
 obtain ⟨LS, hLS⟩ : ∃ L, L = S.length := ⟨_, rfl⟩
 have HLS := Lib.hid hLS
 have huI : (u : Int) < (S.length : Int) := by omega
 obtain ⟨sb, so, snm, sfa, sfc, rfl, -, hsl, hsc, hfd⟩ := h u hu
 obtain ⟨F, hF⟩ : ∃ F, F = S.getD u [] := ⟨_, rfl⟩
 rw [← hF] at hsl hsc hfd
 obtain ⟨Lf, hLf⟩ : ∃ L, L = F.length := ⟨_, rfl⟩
 rw [← hLf] at hsl hsc
 have hLu : Lf = (fds S u).length := by rw [hLf, hF]; rfl
 have hLf8 : Lf ≤ 8 := by rw [hLu]; exact hg.len8 u
 have hKL : K ≤ Lf := by rw [hLu]; exact hK
 have HU := Lib.hid (And.intro hF (And.intro hLf (And.intro hsc (And.intro hfd (And.intro hLu hsl)))))
 have HT16 : Hid (wsum S 34 u Lf ≤ 16) := Lib.hid (by
  have h1 := hg.w16 35 (sTy u) ((hg.fin (sTy u)).le (by omega)) (fun _ => ⟨by show (0 : Int) ≤ (u : Int); omega, by show (u : Int) < _; omega⟩)
  rw [wF_struct (show (sTy u).k = 5 from rfl)] at h1
  rw [hLu]
  exact h1)
 have IH := Lib.hid (fun (i : Nat) (hi : i < Lf) (fa' : Option Addr) (fc' : Nat) (V : World) (hV : KB F0 w0 V) (hT : TyAt 49 V ((fds S u).getD i ty0) fa' fc') =>
  rlwords_any S hg (some ⟨sb, so, none⟩) c ((fds S u).getD i ty0) (hg.look (fds_mem (by omega))) fa' fc' V (h.kbF hV) hT)
 rw [← HLS.out] at IH huI ⊢
 clear h hfd hF hLf hLu hg hu hK hLS hsl
 go_enter Tryz.func38, Tryz.ntmps38
 go_wp2_with fail
 go_loopg [8, 7] K (fun g iv sv wr => ∃ i, i ≤ K ∧ g = K - i ∧ iv = .int .i64 (i : Nat) ∧ sv = .int .i64 (wsum S 34 u i : Nat) ∧ Hid (KB F0 w0 wr))
 case atStart => exact ⟨0, by omega, by omega, rfl, by rw [wsum_zero]; rfl, Lib.hid (KB.refl _ _)⟩
 case round =>
  obtain ⟨i, hi, rfl, rfl, rfl, hkw⟩ := hrel
  obtain ⟨wi, rfl⟩ : ∃ w, w = wr := ⟨_, rfl⟩
  by_cases hlt : i < K
  ·have hiI : (i : Int) < (K : Int) := by omega
   have dI : decide ((i : Int) < (K : Int)) = true := decide_eq_true hiI
   have hiF : (i : Int) < (Lf : Int) := by omega
   obtain ⟨fb, fo, fnm, fa', fc', rfl, hnm, hty, htA⟩ := HU.out.2.2.2.1 i (by rw [← HU.out.2.1]; omega)
   obtain ⟨t0, t1, t2, t3, t4⟩ := hty.kbF hkw.out
   have hsl := hkw.out.cell (p := ⟨sb, so + u * 2 + 1, none⟩) (fun x => x) HU.out.2.2.2.2.2
   have hFi : F.getD i ty0 = (fds S u).getD i ty0 := by rw [HU.out.1]; rfl
   rw [hFi] at t0 t1 t2 t3 t4 htA
   have IHi := IH.out i (by omega) fa' fc' wi hkw.out (htA.kbF hkw.out)
   have hsu : wsum S 34 u (i + 1) = wsum S 34 u i + wF S 34 ((fds S u).getD i ty0) := wsum_succ (by rw [← HU.out.2.2.2.2.1]; omega)
   have HTL := Lib.hid (show wsum S 34 u (i + 1) ≤ wsum S 34 u Lf from by rw [HU.out.2.2.2.2.1]; exact wsum_le)
   clear htA
   generalize (fds S u).getD i ty0 = f at t0 t1 t2 t3 t4 IHi hsu
   obtain ⟨x, hx⟩ : ∃ x, x = wF S 34 f := ⟨_, rfl⟩
   rw [← hx] at IHi
   unfold tyV at IHi
   have HX := Lib.hid (And.intro hx hsu)
   obtain ⟨s, hs⟩ : ∃ s, s = wsum S 34 u i := ⟨_, rfl⟩
   rw [← hs]
   have HS := Lib.hid hs
   have HI := Lib.hid IHi
   have hb16 : s + x ≤ 16 := by have := HTL.out; have := HT16.out; omega
   clear hnm hty hFi hx hsu hs IHi
   generalize f.k = fk at t0 HI
   generalize f.m = fm at t1 HI
   generalize f.r = fr at t2 HI
   generalize f.s = fs at t3 HI
   generalize f.of.length = N at t4 HI
   have hwr : IntKind.i64.wrap ((s : Int) + (x : Int)) = ((s + x : Nat) : Int) := by rw [w64 (by omega) (by omega)]; omega
   go_wp2_with fail
   refine HI.out.mono ?_
   rintro e w5 ⟨rfl, k5⟩
   have K5 := Lib.hid (hkw.out.trans k5)
   clear k5 hsl t0 t1 t2 t3 t4
   have HN : Hid (wsum S 34 u (i + 1) = s + x) := Lib.hid (by have := HX.out; have := HS.out; omega)
   go_wp2_with fail
   go_roundg (K - (i + 1))
   case measure => omega
   case rel => exact ⟨i + 1, by omega, rfl, by go_num, by rw [HN.out]; first | rfl | go_num, K5⟩
  ·obtain rfl : i = K := by omega
   have dI : decide ((i : Int) < (i : Int)) = false := decide_eq_false (by omega)
   go_wp2_with fail
   go_ret
   exact ⟨rfl, hkw.out⟩
set_option maxRecDepth 100000 in
set_option maxHeartbeats 16000000 in
theorem rlField_any (S : List (List Ty)) (hn : S.length ≤ 1000000) (hl : ∀ i, (fds S i).length ≤ 1000000) (a : Option Addr) (c : Nat) (hc : S.length ≤ c) (n k : Int) (w : World) (h : StsAt 49 w a S) :
  Calls Tryz.prog 14 #[.slice a S.length c, .int .i64 n, .int .i64 k] w (lyFEnd S n k w) := by
 obtain ⟨w0, rfl⟩ : ∃ w0, w0 = w := ⟨_, rfl⟩
 have ST := Lib.hid (rzStructs_any S hn hl a c w0 h)
 obtain ⟨LS, hLS⟩ : ∃ L, L = S.length := ⟨_, rfl⟩
 have HLS := Lib.hid (And.intro hLS h)
 rw [← hLS] at ST ⊢
 clear hn hl hc hLS
 by_cases hn0 : n < 0
 ·have hno : Hid (¬ FieldOk S n k) := Lib.hid (fun hf => by have := hf.2.1; omega)
  have t1 : decide (n < 0) = true := decide_eq_true hn0
  go_enter Tryz.func14, Tryz.ntmps14
  go_wp2_with fail
  refine ST.out.mono ?_
  rintro e w1 ⟨at_, ok, rfl, -, k1⟩
  have K1 := Lib.hid k1
  clear k1
  cases ok
  all_goals
   simp only [stErr]
   go_wp2_with fail
   go_ret2
   exact Or.inr ⟨hno.out, rfl, K1.out⟩
 have t1 : decide (n < 0) = false := decide_eq_false hn0
 obtain ⟨u, rfl⟩ := Int.eq_ofNat_of_zero_le (show 0 ≤ n by omega)
 have t1 : decide ((u : Int) < 0) = false := t1
 by_cases hnL : LS ≤ u
 ·have hno : Hid (¬ FieldOk S (u : Nat) k) := Lib.hid (fun hf => by have := hf.2.2.1; have := HLS.out.1; omega)
  have t2 : decide (LS ≤ u) = true := decide_eq_true hnL
  go_enter Tryz.func14, Tryz.ntmps14
  go_wp2_with fail
  refine ST.out.mono ?_
  rintro e w1 ⟨at_, ok, rfl, -, k1⟩
  have K1 := Lib.hid k1
  clear k1
  cases ok
  all_goals
   simp only [stErr]
   go_wp2_with fail
   go_ret2
   exact Or.inr ⟨hno.out, rfl, K1.out⟩
 have t2 : decide (LS ≤ u) = false := decide_eq_false hnL
 have huL : u < S.length := by have := HLS.out.1; omega
 have huI : (u : Int) < (LS : Int) := by omega
 by_cases hk0 : k < 0
 ·have hno : Hid (¬ FieldOk S (u : Nat) k) := Lib.hid (fun hf => by have := hf.2.2.2.1; omega)
  have t3 : decide (k < 0) = true := decide_eq_true hk0
  go_enter Tryz.func14, Tryz.ntmps14
  go_wp2_with fail
  refine ST.out.mono ?_
  rintro e w1 ⟨at_, ok, rfl, -, k1⟩
  have K1 := Lib.hid k1
  clear k1
  cases ok
  all_goals
   simp only [stErr]
   go_wp2_with fail
   go_ret2
   exact Or.inr ⟨hno.out, rfl, K1.out⟩
 have t3 : decide (k < 0) = false := decide_eq_false hk0
 obtain ⟨q, rfl⟩ := Int.eq_ofNat_of_zero_le (show 0 ≤ k by omega)
 have t3 : decide ((q : Int) < 0) = false := t3
 obtain ⟨sb, so, snm, sfa, sfc, rfl, -, hsl, hsc, hfd⟩ := h u huL
 obtain ⟨Lf, hLf⟩ : ∃ L, L = (S.getD u []).length := ⟨_, rfl⟩
 rw [← hLf] at hsl hsc
 by_cases hqL : Lf ≤ q
 ·have hno : Hid (¬ FieldOk S (u : Nat) (q : Nat)) := Lib.hid (fun hf => by have := hf.2.2.2.2; rw [Int.toNat_natCast] at this; have e : (fds S u).length = Lf := hLf.symm; omega)
  have t4 : decide (Lf ≤ q) = true := decide_eq_true hqL
  clear h hfd hLf huL
  go_enter Tryz.func14, Tryz.ntmps14
  go_wp2_with fail
  refine ST.out.mono ?_
  rintro e w1 ⟨at_, ok, rfl, -, k1⟩
  have hsl1 := k1.cell (p := ⟨sb, so + u * 2 + 1, none⟩) (fun x => x) hsl
  have K1 := Lib.hid k1
  clear k1 hsl
  cases ok
  all_goals
   simp only [stErr]
   go_wp2_with fail
   go_ret2
   exact Or.inr ⟨hno.out, rfl, K1.out⟩
 have t4 : decide (Lf ≤ q) = false := decide_eq_false hqL
 have HU := Lib.hid (And.intro huL hLf)
 clear h hfd hLf huL
 go_enter Tryz.func14, Tryz.ntmps14
 go_wp2_with fail
 refine ST.out.mono ?_
 rintro e w1 ⟨at_, ok, rfl, hE, k1⟩
 have hsl1 := k1.cell (p := ⟨sb, so + u * 2 + 1, none⟩) (fun x => x) hsl
 have K1 := Lib.hid k1
 have HE := Lib.hid hE
 clear k1 hsl hE
 cases ok
 case false =>
  have hno : Hid (¬ FieldOk S (u : Nat) (q : Nat)) := Lib.hid (fun hf => by have := HE.out.2 hf.1; cases this)
  simp only [stErr]
  go_wp2_with fail
  go_ret2
  exact Or.inr ⟨hno.out, rfl, K1.out⟩
 case true =>
  have hg := HE.out.1 rfl
  have FD := Lib.hid (rllies_any S hg (some ⟨sb, so, none⟩) c u HU.out.1 q (by have e : Lf = (fds S u).length := HU.out.2; omega) w1 (HLS.out.2.kbF K1.out))
  rw [← HLS.out.1] at FD
  have HO : Hid (FieldOk S (u : Nat) (q : Nat)) := Lib.hid ⟨hg, by omega, by have := HU.out.1; omega, by omega, by rw [Int.toNat_natCast]; have e : Lf = (fds S u).length := HU.out.2; omega⟩
  clear hg
  simp only [stErr]
  go_wp2_with fail
  refine FD.out.mono ?_
  rintro e w2 ⟨rfl, k2⟩
  have K2 := Lib.hid (K1.out.trans k2)
  clear k2 hsl1
  go_wp2_with fail
  go_ret2
  exact Or.inl ⟨HO.out, rfl, K2.out⟩
end Go.Proofs.YtaeppaaolkcbbaaGreatDoor

namespace Go.Proofs.YtaeppaaolkcbbaaGreatDoor.AV
open Go.RowKit

def inPlace (v : Value) (n : Nat) : Value := match v with
 | .slice a _ c => .slice a n c
 | v => v
theorem inPlace_block (v : Value) (n : Nat) : (inPlace v n).ownBlock = v.ownBlock := by
 cases v with
 | slice a l c => cases a <;> rfl
 | _ => rfl
theorem own_at5 {w w' : World} {B : Nat} {e : TypeId} {size n : Nat} {v : Value} {xs : List Value} (h : w.ownsRow B e size v n xs) (hs : ∀ g, v.ownBlock = some g → w'.heap[g]? = w.heap[g]?) : w'.ownsRow B e size v n xs := by
 obtain ⟨h1, h2⟩ := h
 refine ⟨h1, ?_⟩
 rcases h2 with h2 | ⟨g, cap, cur, hv, hg, hh, r⟩
 ·exact Or.inl h2
 ·exact Or.inr ⟨g, cap, cur, hv, hg, by rw [hs g (by rw [hv]; rfl)]; exact hh, r⟩
theorem own_prefix {z : Nat} {w : World} {B : Nat} {e : TypeId} {v : Value} {n m : Nat} {ys : List Value} (h : w.ownsRow B e z (inPlace v n) n ys) (hm : m ≤ n) (hv : ∃ g c, v = .slice (some ⟨g, 0, none⟩) m c) : w.ownsRow B e z v m (ys.take (m * z)) := by
 obtain ⟨g, c, rfl⟩ := hv
 obtain ⟨h1, h2⟩ := h
 rcases h2 with ⟨h2, -⟩ | ⟨g', cap, cur, hv, hg, hh, hcap, hmx, hsz, hx⟩
 ·simp [inPlace] at h2
 ·simp only [inPlace, Value.slice.injEq, Option.some.injEq, Addr.mk.injEq, and_true, true_and] at hv
  obtain ⟨rfl, rfl⟩ := hv
  refine ⟨by rw [List.length_take, h1]; exact Nat.min_eq_left (Nat.mul_le_mul_right _ hm), Or.inr ⟨g, c, cur, rfl, hg, hh, by omega, hmx, hsz, ?_⟩⟩
  rw [← hx, List.take_take]
  congr 1; exact (Nat.min_eq_left (Nat.mul_le_mul_right _ hm)).symm
def GA (z B : Nat) (e : TypeId) (v : Value) (n : Nat) (ys : List Value) (a b : World) : Prop :=
 KB (fun k => v.ownBlock = some k) a b ∧ ∀ g, v.ownBlock = some g → b.heap[g]? = a.heap[g]? ∨ b.ownsRow B e z (inPlace v n) n ys
section
variable {z B : Nat} {e : TypeId} {v : Value} {n : Nat} {ys : List Value}
theorem GA.refl (a : World) : GA z B e v n ys a a := ⟨KB.refl _ _, fun _ _ => .inl rfl⟩
theorem GA.trans (a b c : World) (h : GA z B e v n ys a b) (k : GA z B e v n ys b c) : GA z B e v n ys a c := by
 refine ⟨h.1.trans k.1, fun g hg => ?_⟩
 rcases k.2 g hg with h2 | h2
 ·rcases h.2 g hg with h1 | h1
  ·exact .inl (h2.trans h1)
  ·refine .inr (own_at5 h1 fun g' hg' => ?_)
   rw [inPlace_block, hg] at hg'
   obtain rfl := Option.some.inj hg'
   exact h2
 ·exact .inr h2
theorem GA.start (a : World) : GA z B e v n ys a a.drew := ⟨(KB.refl _ _).drew, fun _ _ => .inl rfl⟩
theorem GA.kb {F0' : Nat → Prop} {a b : World} (hk : KB F0' a b) (hF : ∀ k, ¬ F0' k) (hlt : ∀ g, v.ownBlock = some g → g < a.heap.size) : GA z B e v n ys a b :=
 ⟨hk.mono (fun k _ h => (hF k h).elim), fun g hg => .inl (hk.block g (hlt g hg) (hF g))⟩
theorem GA.old {a b : World} {m : Nat} (h : GA z B e v n ys a b) (ho : a.ownsRow B e z v m (ys.take (m * z))) (hm : m ≤ n) : b.ownsRow B e z v m (ys.take (m * z)) := by
 obtain ⟨h1, h2⟩ := ho
 rcases h2 with ⟨rfl, h2⟩ | ⟨g, cap, cur, rfl, hb, hh, r⟩
 ·exact ⟨h1, Or.inl ⟨rfl, h2⟩⟩
 ·rcases h.2 g rfl with h3 | h3
  ·exact ⟨h1, Or.inr ⟨g, cap, cur, rfl, hb, by rw [h3]; exact hh, r⟩⟩
  ·exact own_prefix h3 hm ⟨g, cap, rfl⟩
def FA (z B N0 : Nat) (e : TypeId) (v : Value) (n : Nat) (ys : List Value) (v' : Value) (w : World) : Prop :=
 w.ownsRow B e z v' n ys ∧ (v' = inPlace v n ∨ ∀ g, v'.ownBlock = some g → v.ownBlock ≠ some g ∧ N0 ≤ g)
theorem FA.lasts {N0 : Nat} {v' : Value} {a b : World} (h : GA z B e v n ys a b) (f : FA z B N0 e v n ys v' a) : FA z B N0 e v n ys v' b := by
 obtain ⟨f1, f2⟩ := f
 refine ⟨?_, f2⟩
 rcases f2 with rfl | f2
 ·cases hv : v.ownBlock with
  | none => exact own_at5 f1 (fun g hg => by rw [inPlace_block, hv] at hg; cases hg)
  | some g =>
   rcases h.2 g hv with h1 | h1
   ·refine own_at5 f1 (fun g' hg' => ?_)
    rw [inPlace_block, hv] at hg'
    obtain rfl := Option.some.inj hg'
    exact h1
   ·exact h1
 ·exact own_kb f1 h.1 (fun g hg hS => (f2 g hg).1 hS)
end
theorem kindW_monoG {G : World → World → Prop} (l : List (Nat × (Value → Prop) × (Value → World → Prop))) (hl : ∀ p ∈ l, ∀ v a b, G a b → p.2.2 v a → p.2.2 v b) : ∀ i Fp Fw, kindW l i = .rel Fp Fw → ∀ xs v a b, G a b → Fw xs v a → Fw xs v b := by
 intro i Fp Fw h xs v a b hG hf
 unfold kindW at h
 split at h
 ·rename_i p hp
  cases h
  exact hl p (List.mem_of_find?_eq_some hp) v a b hG hf
 ·cases h
def Src (w : World) (x : Value) (m : Nat) (cs : List Value) : Prop :=
 (x = .slice none 0 0 ∧ m = 0 ∧ cs = []) ∨ (0 < m ∧ ∃ a c, x = .slice (some a) m c ∧ ∀ j u, cs[j]? = some u → w.cell? (a.add j) = some u)
theorem run_append_many {P : Program} (w : World) (base N0 : Nat) (hN0 : N0 ≤ w.heap.size) (t ty e : TypeId) {z : Nat} {zv : Value} {bytes : Nat} (hinfo : (P.info? e).map (fun i => (i.zero, i.size, i.bytes)) = some (some zv, z, bytes)) (ht : P.underlying t = some (.slice e)) (hzs : zv.cells.size = z) (hz0 : 0 < z)
  (v : Value) (n : Nat) (xs : List Value) (hown : w.ownsRow base e z v n xs) (x : Value) (m : Nat) (cs : List Value) (hcl : cs.length = m * z) (hsrc : Src w x m cs) (h1 : ∀ x ∈ cs, x.oneCell' = true)
  (h63 : n + m ≤ maxLen) (hbytes : (n + m) * bytes ≤ 140737488355328) (hbase : base ≤ w.heap.size) :
  ∃ v' w', (Builtin.append_ #[t, t] ty #[v, x]).run P w = .ok v' w' ∧ FA z base N0 e v (n + m) (xs ++ cs) v' w' ∧ GA z base e v (n + m) (xs ++ cs) w w' ∧ (m = 0 → v' = v) := by
 obtain ⟨i, hi, hz, hsize, hby⟩ := info_parts hinfo
 have hlt : ∀ g, v.ownBlock = some g → g < w.heap.size := fun g hg => by
  rcases hown.2 with ⟨rfl, -⟩ | ⟨g', cap, cur, rfl, -, hh, -⟩
  ·cases hg
  ·simp [Value.ownBlock] at hg; subst hg; exact heap_lt hh
 rcases hsrc with ⟨rfl, rfl, rfl⟩ | ⟨hm0, a, c, rfl, hu⟩
 ·refine ⟨v, w, run_append_owned_none w base t ty e i z ht hi v n xs hown, ⟨by simpa using hown, .inl ?_⟩, ⟨KB.refl _ _, fun _ _ => .inl rfl⟩, fun _ => rfl⟩
  rcases hown.2 with ⟨rfl, rfl⟩ | ⟨g, cap, cur, rfl, -⟩ <;> rfl
 by_cases hroom : ∃ g cap, v = .slice (some ⟨g, 0, none⟩) n cap ∧ n + m ≤ cap
 ·obtain ⟨g, cap, rfl, hcap⟩ := hroom
  obtain ⟨w', hr, h2, h3⟩ := run_append_fits (P := P) w base t ty e i z ht hi hsize g n cap xs hown a m c cs hcl hu h1 hcap
  refine ⟨_, w', hr, ⟨h2, .inl rfl⟩, ⟨⟨h3.os, h3.tape, h3.output, h3.size, fun k hk hn => h3.block k hk (fun e => hn (by rw [e]; rfl))⟩, fun g' hg' => .inr h2⟩, fun e => by omega⟩
 ·-- a new block
  have hlen := hown.1
  have mk : ∀ (old : Nat), old < n + m →
    (w.drew.alloc (.cells (xs.toArray ++ cs.toArray ++ Builtin.zeroCells zv.cells (grownCap w (n + m) old e - (n + m))) e)).ownsRow base e z
     (.slice (some ⟨w.heap.size, 0, none⟩) (n + m) (grownCap w (n + m) old e)) (n + m) (xs ++ cs) ∧
    KB (fun _ => False) w (w.drew.alloc (.cells (xs.toArray ++ cs.toArray ++ Builtin.zeroCells zv.cells (grownCap w (n + m) old e - (n + m))) e)) := by
   intro old ho
   have hge := grownCap_ge w (n + m) old e
   have hcm : grownCap w (n + m) old e ≤ maxLen := grownCap_le_maxLen w (n + m) old e h63
   refine ⟨⟨by rw [List.length_append, hlen, hcl, Nat.add_mul], .inr ⟨w.heap.size, _, _, rfl, hbase, heap_alloc_new w.drew _, hge, hcm, ?_, ?_⟩⟩, (KB.refl _ _).drew.alloc _⟩
   ·simp only [Array.size_append, List.size_toArray, size_zeroCells, hzs, hlen, hcl]
    rw [← Nat.add_mul, ← Nat.add_mul]
    congr 1; omega
   ·simp only [Array.toList_append, List.append_assoc]
    rw [← List.append_assoc, show (n + m) * z = (xs ++ cs).length by rw [List.length_append, hlen, hcl, Nat.add_mul]]
    exact List.take_left
  have fin : ∀ {w' : World} {cap' : Nat}, w'.ownsRow base e z (.slice (some ⟨w.heap.size, 0, none⟩) (n + m) cap') (n + m) (xs ++ cs) → KB (fun _ => False) w w' →
    FA z base N0 e v (n + m) (xs ++ cs) (.slice (some ⟨w.heap.size, 0, none⟩) (n + m) cap') w' ∧ GA z base e v (n + m) (xs ++ cs) w w' := fun h2 hk =>
   ⟨⟨h2, .inr (fun g hg => by
    simp [Value.ownBlock] at hg
    exact ⟨fun hv => by have := hlt g hv; omega, by omega⟩)⟩, hk.mono (fun _ _ h => h.elim), fun g hg => .inl (hk.block g (hlt g hg) (fun x => x))⟩
  rcases hown.2 with ⟨rfl, rfl⟩ | ⟨g, cap, cur, rfl, hbg, hg, hnc, hcm, hcs, htake⟩
  ·have hx : xs = [] := List.eq_nil_of_length_eq_zero (by simpa using hlen)
   subst hx
   have hr := run_append_nil (P := P) w t ty e i zv ht hi hz a m c cs (by rw [hsize, hcl]) hu (by omega) (by unfold maxLen at h63; omega) (by rw [hby]; simp only [Nat.zero_add] at hbytes; omega)
   obtain ⟨m1, m2⟩ := mk 0 (by omega)
   simp only [Nat.zero_add, List.nil_append, Array.empty_append] at m1 m2 fin ⊢
   exact ⟨_, _, hr, (fin m1 m2).1, (fin m1 m2).2, fun e => by omega⟩
  ·have hcap : cap < n + m := by
    apply Classical.byContradiction
    intro h
    exact hroom ⟨g, cap, rfl, by omega⟩
   have hr := run_append_grow (P := P) w t ty e i zv ht hi hz ⟨g, 0, none⟩ n cap xs (by rw [hsize]; exact hlen) (hown.cells (g := g) rfl) a m c cs (by rw [hsize, hcl]) hu (by omega) (by unfold maxLen at h63; omega)
    (growslice_fits (by omega) (by rw [hby]; exact hbytes))
   obtain ⟨m1, m2⟩ := mk cap hcap
   exact ⟨_, _, hr, (fin m1 m2).1, (fin m1 m2).2, fun e => by omega⟩
theorem opVal_append {P : Program} {o : Oper} {act : Act} {w : World} (base N0 : Nat) (hN0 : N0 ≤ w.heap.size) (s x : Operand) (t e : TypeId) {z : Nat} {zv : Value} {bytes : Nat} (ho : o.op = .call { callee := .builtin .append, args := #[s, x], argTypes := #[t, t] })
  (hinfo : (P.info? e).map (fun i => (i.zero, i.size, i.bytes)) = some (some zv, z, bytes)) (ht : P.underlying t = some (.slice e)) (hzs : zv.cells.size = z) (hz0 : 0 < z)
  (v : Value) (n : Nat) (xs : List Value) (hs : act.eval s = v) (hown : w.ownsRow base e z v n xs) (xv : Value) (m : Nat) (cs : List Value) (hcl : cs.length = m * z) (hx : act.eval x = xv) (hsrc : Src w xv m cs) (h1 : ∀ x ∈ cs, x.oneCell' = true)
  (h63 : n + m ≤ maxLen) (hbytes : (n + m) * bytes ≤ 140737488355328) (hbase : base ≤ w.heap.size) :
  OpVal P o act w (fun v' w' => FA z base N0 e v (n + m) (xs ++ cs) v' w' ∧ GA z base e v (n + m) (xs ++ cs) w w' ∧ (m = 0 → v' = v)) := by
 obtain ⟨v', w', hr, h2, h3⟩ := run_append_many (P := P) w base N0 hN0 t o.type e hinfo ht hzs hz0 v n xs hown xv m cs hcl hsrc h1 h63 hbytes hbase
 refine opVal_value (v := v') (w' := w') ?_ ⟨h2, h3⟩
 unfold execOp
 simp only [ho, resolve, invoke, builtin, Sem.run_bind, Sem.run_pure, Result.andThen_ok, List.map_toArray, List.map_cons, List.map_nil, hs, hx, hr]
theorem opVal_imp {P : Program} {o : Oper} {a : Act} {w : World} {ψ φ : Value → World → Prop} (h : OpVal P o a w ψ) (hi : ∀ v w', ψ v w' → φ v w') : OpVal P o a w φ := by
 unfold OpVal at h ⊢
 split at h
 ·exact hi _ _ h
 ·exact h.mono fun e w' ⟨v, h1, h2⟩ => ⟨v, h1, hi _ _ h2⟩
 ·exact h
end Go.Proofs.YtaeppaaolkcbbaaGreatDoor.AV

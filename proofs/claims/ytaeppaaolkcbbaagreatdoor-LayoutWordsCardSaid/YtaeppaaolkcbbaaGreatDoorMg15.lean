/- loanwordref06.words. loanwordref06.Structs, May, Words. -/
import Derived.Test.YtaeppaaolkcbbaaGreatDoorMg05
import Derived.Test.YtaeppaaolkcbbaaGreatDoorMg08
import Derived.Test.YtaeppaaolkcbbaaGreatDoorMg10
import Derived.Test.YtaeppaaolkcbbaaGreatDoorMg14
import Derived.Test.YtaeppaaolkcbbaaGreatDoorMg09
namespace Go.Proofs.YtaeppaaolkcbbaaGreatDoor
open Go.RowKit

def WM (m y n x : Nat) : Prop := (y ≤ m → x = y) ∧ (m < y → m < x) ∧ x ≤ 17 * n + 1
set_option maxRecDepth 100000 in
set_option maxHeartbeats 32000000 in
theorem rzWords_any (S : List (List Ty)) (hS : InR S) (h32 : S.length ≤ 32) (h8 : ∀ i, (fds S i).length ≤ 100) (d : Nat) (a : Option Addr) (c : Nat) : ∀ (n : Nat), n ≤ 1000 → ∀ (mo : Nat), mo ≤ 16 → ∀ (t : Ty) (ta : Option Addr) (tc : Nat) (w : World), FinD S n t → InT S t → StsAt d w a S →
  Calls Tryz.prog 76 #[.slice a S.length c, tyV t ta tc, .int .i64 (mo : Nat)] w fun e w' => ∃ x : Nat, e = .returned (.int .i64 (x : Nat)) ∧ WM mo (wF S n t) n x ∧ KB F0 w w' := by
 intro n
 induction n with
 | zero => intro _ mo _ t ta tc w h; exact h.elim
 | succ n ih =>
  intro hn mo hmo t ta tc w hfin hin h
  obtain ⟨w0, rfl⟩ : ∃ w0, w0 = w := ⟨_, rfl⟩
  obtain ⟨W, hW⟩ : ∃ W, W = w0.alloc (.cells #[.int .u8 t.k, .bool t.m, .int .i64 t.r, .int .i64 t.s, .slice ta t.of.length tc] 26) := ⟨_, rfl⟩
  obtain ⟨kb, hb⟩ := boxTy w0 t ta tc
  rw [← hW] at kb hb
  have HW := Lib.hid hW
  have HB := Lib.hid (And.intro kb hb)
  have g0 : W.cell? ⟨w0.heap.size, 0, none⟩ = some (.int .u8 t.k) := blk_cell hb 0
  have g3 : W.cell? ⟨w0.heap.size, 3, none⟩ = some (.int .i64 t.s) := blk_cell hb 3
  obtain ⟨LS, hLS⟩ : ∃ L, L = S.length := ⟨_, rfl⟩
  have HLS := Lib.hid hLS
  rw [← hLS] at h32 ⊢
  clear kb hb hW hLS
  unfold tyV
  by_cases hk : t.k = 5
  ·obtain ⟨u, hu⟩ : ∃ u : Nat, t.s = (u : Int) := ⟨t.s.toNat, by have := hin hk; omega⟩
   have hun : t.s.toNat = u := by omega
   have huL : u < LS := by have := hin hk; rw [HLS.out]; omega
   have huI : (u : Int) < (LS : Int) := by omega
   obtain ⟨sb, so, snm, sfa, sfc, rfl, -, hsl0, hsc, hfd⟩ := h u (by rw [← HLS.out]; exact huL)
   have hsl := HB.out.1.cell (p := ⟨sb, so + u * 2 + 1, none⟩) (fun x => x) hsl0
   obtain ⟨F, hF⟩ : ∃ F, F = S.getD u [] := ⟨_, rfl⟩
   rw [← hF] at hsl hsc hfd
   obtain ⟨Lf, hLf⟩ : ∃ L, L = F.length := ⟨_, rfl⟩
   rw [← hLf] at hsl hsc
   have hLf100 : Lf ≤ 100 := by rw [hLf, hF]; exact h8 u
   have hLu : Lf = (fds S u).length := by rw [hLf, hF]; rfl
   have HF : Hid (∀ i, i < Lf → FinD S n ((fds S u).getD i ty0) ∧ InT S ((fds S u).getD i ty0)) := Lib.hid (fun i hi => by
    have hm := fds_mem (S := S) (u := u) (i := i) (by omega)
    exact ⟨hfin hk _ (by rw [hun]; exact hm), hS.inT hm⟩)
   have HU := Lib.hid (And.intro hF (And.intro hLf (And.intro hsc (And.intro hfd hLu))))
   have HR : Hid (wF S (n + 1) t = wsum S n u Lf) := Lib.hid (by rw [wF_struct hk, hun, hLu])
   have IH := Lib.hid (fun (i : Nat) (hi : i < Lf) (m2 : Nat) (hm2 : m2 ≤ 16) (fa' : Option Addr) (fc' : Nat) (V : World) (hV : KB F0 w0 V) => ih (by omega) m2 hm2 ((fds S u).getD i ty0) fa' fc' V (HF.out i hi).1 (HF.out i hi).2 (h.kbF hV))
   rw [← HLS.out] at IH
   rw [hk] at g0
   rw [hu] at g3 HW
   rw [hu, hk]
   rw [hk] at HW
   generalize t.m = tm at HW ⊢
   generalize t.r = tr at HW ⊢
   generalize t.of.length = tl at HW ⊢
   rw [HR.out]
   have hfd2 := HU.out.2.2.2.1
   have HSL := Lib.hid hsl
   have HG := Lib.hid (And.intro g0 g3)
   have hn100 : n ≤ 1000 := by omega
   clear hfin hin h ih hsl0 hsc hfd hF hLf hLu hk hun hu hS h8 hfd2
   go_enter Tryz.func76, Tryz.ntmps76
   go_upto_region 1 with fail
   rw [← HW.out]
   go_wp2_with fail
   clear hsl g0 g3
   go_loopg [9, 7] Lf (fun g iv sv wr => ∃ i s, i ≤ Lf ∧ g = Lf - i ∧ iv = .int .i64 (i : Nat) ∧ sv = .int .i64 (s : Nat) ∧ Hid (KB F0 W wr ∧ (wsum S n u i ≤ mo ∧ s = wsum S n u i ∨ mo < s ∧ mo < wsum S n u Lf ∧ s ≤ 17 * (n + 1) + 1)))
   case atStart => exact ⟨0, 0, by omega, by omega, rfl, rfl, Lib.hid ⟨KB.refl _ _, Or.inl ⟨by rw [wsum_zero]; omega, by rw [wsum_zero]⟩⟩⟩
   case round =>
    obtain ⟨i, s, hi, rfl, rfl, rfl, hst⟩ := hrel
    obtain ⟨wi, rfl⟩ : ∃ w, w = wr := ⟨_, rfl⟩
    have hkw := Lib.hid hst.out.1
    by_cases hlt : i < Lf
    ·have hiI : (i : Int) < (Lf : Int) := by omega
     have dI : decide ((i : Int) < (Lf : Int)) = true := decide_eq_true hiI
     by_cases h16 : s ≤ mo
     ·have hs16I : (s : Int) ≤ (mo : Int) := by omega
      have d16 : decide ((s : Int) ≤ (mo : Int)) = true := decide_eq_true hs16I
      have hwm : IntKind.i64.wrap ((mo : Int) - (s : Int)) = ((mo - s : Nat) : Int) := by rw [w64 (by omega) (by omega)]; omega
      obtain ⟨fb, fo, fnm, fa', fc', rfl, hnm, hty, -⟩ := HU.out.2.2.2.1 i (by rw [← HU.out.2.1]; exact hlt)
      obtain ⟨t0, t1, t2, t3, t4⟩ := hty.kbF (HB.out.1.trans hkw.out)
      have hFi : F.getD i ty0 = (fds S u).getD i ty0 := by rw [HU.out.1]; rfl
      rw [hFi] at t0 t1 t2 t3 t4
      have IHi := IH.out i hlt (mo - s) (by omega) fa' fc'
      have hsu : wsum S n u (i + 1) = wsum S n u i + wF S n ((fds S u).getD i ty0) := wsum_succ (by rw [← HU.out.2.2.2.2]; exact hlt)
      have HTL := Lib.hid (show wsum S n u (i + 1) ≤ wsum S n u Lf from by rw [HU.out.2.2.2.2]; exact wsum_le)
      generalize (fds S u).getD i ty0 = f at t0 t1 t2 t3 t4 IHi hsu
      have hse : s = wsum S n u i ∧ wsum S n u i ≤ mo := by
       rcases hst.out.2 with h | h
       ·exact ⟨h.2, h.1⟩
       ·omega
      obtain ⟨y, hy⟩ : ∃ y, y = wF S n f := ⟨_, rfl⟩
      rw [← hy] at IHi hsu
      unfold tyV at IHi
      have HI := Lib.hid IHi
      have HX := Lib.hid (And.intro hsu hse)
      have HSS := Lib.hid hst.out.1
      clear hnm hty hFi hsu hse hy IHi hst
      generalize f.k = fk at t0 HI
      generalize f.m = fm at t1 HI
      generalize f.r = fr at t2 HI
      generalize f.s = fs at t3 HI
      generalize f.of.length = N at t4 HI
      go_wp2_with fail
      refine (HI.out _ (HB.out.1.trans hkw.out)).mono ?_
      rintro e w5 ⟨x, rfl, hx, k5⟩
      have K5 := Lib.hid (hkw.out.trans k5)
      have hxb := hx.2.2
      have HXX := Lib.hid hx
      have hwr : IntKind.i64.wrap ((s : Int) + (x : Int)) = ((s + x : Nat) : Int) := by rw [w64 (by omega) (by omega)]; omega
      have HN : Hid (wsum S n u (i + 1) ≤ mo ∧ s + x = wsum S n u (i + 1) ∨ mo < s + x ∧ mo < wsum S n u Lf ∧ s + x ≤ 17 * (n + 1) + 1) := Lib.hid (by
       have h1 := HX.out
       have h2 := HTL.out
       by_cases hy : y ≤ mo - s
       ·have := hx.1 hy
        by_cases h3 : wsum S n u (i + 1) ≤ mo
        ·exact Or.inl ⟨h3, by omega⟩
        ·exact Or.inr ⟨by omega, by omega, by omega⟩
       ·have := hx.2.1 (by omega)
        exact Or.inr ⟨by omega, by omega, by omega⟩)
      clear k5 t0 t1 t2 t3 t4 hx hxb
      go_wp2_with fail
      go_roundg (Lf - (i + 1))
      case measure => omega
      case rel => exact ⟨i + 1, s + x, by omega, rfl, by go_num, by go_num, Lib.hid ⟨K5.out, HN.out⟩⟩
     ·have hs16I : ¬ ((s : Int) ≤ (mo : Int)) := by omega
      have d16 : decide ((s : Int) ≤ (mo : Int)) = false := decide_eq_false hs16I
      have HN : Hid (WM mo (wsum S n u Lf) (n + 1) s) := Lib.hid (by
       rcases hst.out.2 with h | h
       ·omega
       ·exact ⟨fun h1 => by omega, fun _ => h.1, by omega⟩)
      have HK := Lib.hid (HB.out.1.trans hkw.out)
      clear hst hkw
      go_wp2_with fail
      go_ret
      exact ⟨_, rfl, HN.out, HK.out⟩
    ·obtain rfl : i = Lf := by omega
     have dI : decide ((i : Int) < (i : Int)) = false := decide_eq_false (by omega)
     have HN : Hid (WM mo (wsum S n u i) (n + 1) s) := Lib.hid (by
      rcases hst.out.2 with h | h
      ·exact ⟨fun _ => h.2, fun h1 => by omega, by omega⟩
      ·exact ⟨fun h1 => by omega, fun _ => h.1, by omega⟩)
     have HK := Lib.hid (HB.out.1.trans hkw.out)
     clear hst hkw
     go_wp2_with fail
     go_ret
     exact ⟨_, rfl, HN.out, HK.out⟩
  ·have hk2 : (t.k != 5) = true := by simpa using hk
   have HR : Hid (wF S (n + 1) t = 1) := Lib.hid (by simp [wF, hk])
   rw [HR.out]
   generalize t.k = tk at g0 HW hk2 ⊢
   generalize t.m = tm at HW ⊢
   generalize t.r = tr at HW ⊢
   generalize t.s = ts at HW ⊢
   generalize t.of.length = tl at HW ⊢
   clear hk hfin hin h ih hS h8 g3
   go_enter Tryz.func76, Tryz.ntmps76
   go_upto_region 1 with fail
   rw [← HW.out]
   go_wp2_with fail
   go_ret
   exact ⟨1, rfl, ⟨fun _ => rfl, fun h => by omega, by omega⟩, HB.out.1⟩

def RzEnd (S : List (List Ty)) (w : World) (e : Ending) (w' : World) : Prop := ∃ (z : Int) (ok : Bool), e = .returned (.tuple #[.int .i64 z, .int .i64 (stErr ok)]) ∧ (ok = true ↔ GoodS S) ∧ KB F0 w w'
theorem rzEnd_no {S : List (List Ty)} {w w' : World} {z : Int} (h : ¬ GoodS S) (hk : KB F0 w w') : RzEnd S w (.returned (.tuple #[.int .i64 z, .int .i64 2])) w' := ⟨z, false, rfl, ⟨fun h => (by cases h), fun hg => (h hg).elim⟩, hk⟩
theorem rzEnd_yes {S : List (List Ty)} {w w' : World} {z : Int} (h : GoodS S) (hk : KB F0 w w') : RzEnd S w (.returned (.tuple #[.int .i64 z, .int .i64 0])) w' := ⟨z, true, rfl, ⟨fun _ => h, fun _ => rfl⟩, hk⟩
set_option maxRecDepth 100000 in
set_option maxHeartbeats 32000000 in
theorem rzStructs_any (S : List (List Ty)) (hn : S.length ≤ 1000000) (hl : ∀ i, (fds S i).length ≤ 1000000) (a : Option Addr) (c : Nat) (w : World) (h : StsAt 49 w a S) :
  Calls Tryz.prog 37 #[.slice a S.length c] w (RzEnd S w) := by
 obtain ⟨w0, rfl⟩ : ∃ w0, w0 = w := ⟨_, rfl⟩
 obtain ⟨n, hnn⟩ : ∃ n, n = S.length := ⟨_, rfl⟩
 rw [← hnn]
 by_cases h32 : S.length ≤ 32
 case neg =>
  have hng : Hid (¬ GoodS S) := Lib.hid (fun hg => h32 hg.len)
  have g1 : (32 : Int) < (n : Int) := by omega
  have g2 : decide ((32 : Int) < (n : Int)) = true := decide_eq_true g1
  have g3 : decide (32 < n) = true := decide_eq_true (by omega)
  clear h hl hnn h32 hn
  go_enter Tryz.func37, Tryz.ntmps37
  go_wp2_with fail
  go_ret2
  exact rzEnd_no hng.out (KB.refl _ _)
 case pos =>
  have g1 : ¬ ((32 : Int) < (n : Int)) := by omega
  have g2 : decide ((32 : Int) < (n : Int)) = false := decide_eq_false g1
  have g3 : decide (32 < n) = false := decide_eq_false (by omega)
  have hn32 : n ≤ 32 := by omega
  have HH := Lib.hid (And.intro h (And.intro hnn (And.intro hl h32)))
  clear h hl hnn h32 hn
  go_enter Tryz.func37, Tryz.ntmps37
  go_wp2_with fail
  clear g1 g2 g3
  go_loopg [4] n (fun g iv wr => ∃ i, i ≤ n ∧ g = n - i ∧ iv = .int .i64 (i : Nat) ∧ Hid (KB F0 w0 wr ∧ ∀ j, j < i → sB1 S j = false))
  case atStart => exact ⟨0, by omega, by omega, rfl, Lib.hid ⟨KB.refl _ _, fun j hj => by omega⟩⟩
  case round =>
   obtain ⟨i, hi, rfl, rfl, hst⟩ := hrel
   by_cases hlt : i < n
   ·have hiI : (i : Int) < (n : Int) := by omega
    have dI : decide ((i : Int) < (n : Int)) = true := decide_eq_true hiI
    have hiS : i < S.length := by rw [← HH.out.2.1]; exact hlt
    obtain ⟨sb, so, snm, sfa, sfc, rfl, -, hsl0, hsc, hfd⟩ := HH.out.1 i hiS
    have hsl := hst.out.1.cell (p := ⟨sb, so + i * 2 + 1, none⟩) (fun x => x) hsl0
    obtain ⟨F, hF⟩ : ∃ F, F = fds S i := ⟨_, rfl⟩
    rw [show S.getD i [] = F from hF.symm] at hsl hsc hfd hsl0
    obtain ⟨L, hL⟩ : ∃ L, L = F.length := ⟨_, rfl⟩
    rw [← hL] at hsl hsc hsl0
    have hLm : L ≤ 1000000 := by rw [hL, hF]; exact HH.out.2.2.1 i
    have HU := Lib.hid (And.intro hF (And.intro hL (And.intro hsc (And.intro hfd (And.intro hiS hsl0)))))
    clear hF hL hsc hfd hiS hsl0
    by_cases hL1 : L < 1
    ·have d1 : decide ((L : Int) < 1) = true := decide_eq_true (by omega)
     obtain rfl : L = 0 := by omega
     have HG : Hid (¬ GoodS S) := Lib.hid (not_good1 HU.out.2.2.2.2.1 (by unfold sB1; rw [← HU.out.1, ← HU.out.2.1]; rfl))
     go_wp2_with fail
     go_ret2
     exact rzEnd_no HG.out hst.out.1
    ·have d1 : decide ((L : Int) < 1) = false := decide_eq_false (by omega)
     have d1n : decide (L < 1) = false := decide_eq_false hL1
     have e1 : ¬ ((L : Int) < 1) := by omega
     by_cases hL8 : 8 < L
     ·have d8 : decide ((8 : Int) < (L : Int)) = true := decide_eq_true (by omega)
      have d8n : decide (8 < L) = true := decide_eq_true hL8
      have e8 : (8 : Int) < (L : Int) := by omega
      have HG : Hid (¬ GoodS S) := Lib.hid (not_good1 HU.out.2.2.2.2.1 (by unfold sB1; rw [← HU.out.1, ← HU.out.2.1, d1n, d8n]; rfl))
      go_wp2_with fail
      go_ret2
      exact rzEnd_no HG.out hst.out.1
     ·have d8 : decide ((8 : Int) < (L : Int)) = false := decide_eq_false (by omega)
      have d8n : decide (8 < L) = false := decide_eq_false hL8
      have e8 : ¬ ((8 : Int) < (L : Int)) := by omega
      go_wp2_with fail
      clear hsl
      go_loopg [6] L (fun g qv wr => ∃ q, q ≤ L ∧ g = L - q ∧ qv = .int .i64 (q : Nat) ∧ Hid (KB F0 w0 wr ∧ ∀ j, j < q → badF S.length (F.getD j ty0) = false))
      case atStart => exact ⟨0, by omega, by omega, rfl, Lib.hid ⟨hst.out.1, fun j hj => by omega⟩⟩
      case round =>
       obtain ⟨q, hq, rfl, rfl, hsq⟩ := hrel
       by_cases hqt : q < L
       ·have hqI : (q : Int) < (L : Int) := by omega
        have dq : decide ((q : Int) < (L : Int)) = true := decide_eq_true hqI
        obtain ⟨fb, fo, fnm, fa', fc', rfl, hnm, hty, hta⟩ := HU.out.2.2.2.1 q (by rw [← HU.out.2.1]; exact hqt)
        obtain ⟨t0, t1, t2, t3, t4⟩ := hty.kbF hsq.out.1
        have CL := rzLook_any S.length 48 (by omega) (F.getD q ty0) fa' fc' wr (hta.kbF hsq.out.1)
        have CP := fun (hz : lookB S.length 48 (F.getD q ty0) = true) (V : World) (hV : KB F0 wr V) => rzPlain_any S.length 48 (F.getD q ty0) fa' fc' V hz ((hta.kbF (hsq.out.1.trans hV)).le (by omega))
        have CC := Lib.hid (fun (V : World) (hV : KB F0 wr V) => hty.kbF (hsq.out.1.trans hV))
        unfold tyV at CL CP
        rw [← HH.out.2.1] at CL CP
        obtain ⟨z, hz⟩ : ∃ z, z = lookB n 48 (F.getD q ty0) := ⟨_, rfl⟩
        obtain ⟨y, hy⟩ : ∃ y, y = decide (regsF 48 (F.getD q ty0) = []) := ⟨_, rfl⟩
        rw [← hz] at CL CP
        rw [← hy] at CP
        have HZ : Hid (badF S.length (F.getD q ty0) = !(z && y)) := Lib.hid (by rw [hz, hy]; unfold badF; rw [HH.out.2.1, mayB_bare])
        have CL2 := Lib.hid CL
        have CP2 := Lib.hid CP
        generalize F.getD q ty0 = f at t0 t1 t2 t3 t4 CL2 CP2 CC
        clear hnm hty hta CL CP hz hy
        obtain ⟨fk, hfk⟩ : ∃ x, x = f.k := ⟨_, rfl⟩
        rw [← hfk] at t0 CL2 CP2
        obtain ⟨fm, hfm⟩ : ∃ x, x = f.m := ⟨_, rfl⟩
        rw [← hfm] at t1 CL2 CP2
        obtain ⟨fr, hfr⟩ : ∃ x, x = f.r := ⟨_, rfl⟩
        rw [← hfr] at t2 CL2 CP2
        obtain ⟨fs, hfs⟩ : ∃ x, x = f.s := ⟨_, rfl⟩
        rw [← hfs] at t3 CL2 CP2
        obtain ⟨N, hN⟩ : ∃ x, x = f.of.length := ⟨_, rfl⟩
        rw [← hN] at t4 CL2 CP2
        have HF := Lib.hid (And.intro hfk (And.intro hfm (And.intro hfr (And.intro hfs hN))))
        clear hfk hfm hfr hfs hN
        go_wp2_with fail
        refine CL2.out.mono ?_
        rintro e w1 ⟨rfl, k1⟩
        have K1 := Lib.hid (And.intro k1 (hsq.out.1.trans k1))
        clear t0 t1 t2 t3 t4 CL2
        have HG : Hid ((z && y) = false → ¬ GoodS S) := Lib.hid (fun hzy => not_good1 HU.out.2.2.2.2.1 (by
         unfold sB1
         rw [← HU.out.1, any_getD (d := ty0) (by rw [← HU.out.2.1]; exact hqt) (by rw [HZ.out, hzy]; rfl)]
         simp))
        have HN : Hid ((z && y) = true → ∀ w2, KB F0 w1 w2 → KB F0 w0 w2 ∧ ∀ j, j < q + 1 → badF S.length (F.getD j ty0) = false) := Lib.hid (fun hzy w2 k2 => ⟨K1.out.2.trans k2, fun j hj => by
         rcases Nat.lt_or_eq_of_le (Nat.lt_succ_iff.1 hj) with h1 | rfl
         ·exact hsq.out.2 j h1
         ·rw [HZ.out, hzy]; rfl⟩)
        cases z with
        | true =>
         obtain ⟨t0, t1, t2, t3, t4⟩ := CC.out w1 k1
         rw [← HF.out.1] at t0
         rw [← HF.out.2.1] at t1
         rw [← HF.out.2.2.1] at t2
         rw [← HF.out.2.2.2.1] at t3
         rw [← HF.out.2.2.2.2] at t4
         clear k1
         go_wp2_with fail
         refine (CP2.out (by first | rfl | trivial) w1 K1.out.1).mono ?_
         rintro e w2 ⟨rfl, k2⟩
         have K2 := Lib.hid k2
         clear k2 t0 t1 t2 t3 t4 CP2
         cases y with
         | true =>
          have HN2 := Lib.hid (HN.out (by first | rfl | trivial) w2 K2.out)
          go_wp2_with fail
          go_roundg (L - (q + 1))
          case measure => omega
          case rel => exact ⟨q + 1, by omega, rfl, by go_num, HN2⟩
         | false =>
          go_wp2_with fail
          go_ret2
          exact rzEnd_no (HG.out (by first | rfl | trivial)) (K1.out.2.trans K2.out)
        | false =>
         clear k1
         go_wp2_with fail
         go_ret2
         exact rzEnd_no (HG.out (by first | rfl | trivial)) K1.out.2
       ·obtain rfl : q = L := by omega
        have dq : decide ((q : Int) < (q : Int)) = false := decide_eq_false (by omega)
        have HN : Hid (KB F0 w0 wr ∧ ∀ j, j < i + 1 → sB1 S j = false) := Lib.hid ⟨hsq.out.1, fun j hj => by
         rcases Nat.lt_or_eq_of_le (Nat.lt_succ_iff.1 hj) with h1 | rfl
         ·exact hst.out.2 j h1
         ·refine sB1_of ?_ ?_ ?_
          ·rw [← HU.out.1, ← HU.out.2.1]; exact hL1
          ·rw [← HU.out.1, ← HU.out.2.1]; exact hL8
          ·intro p hp
           rw [← HU.out.1, ← HU.out.2.1] at hp
           rw [← HU.out.1]; exact hsq.out.2 p hp⟩
        clear hsq hqt
        go_wp2_with fail
        go_roundg (n - (i + 1))
        case measure => omega
        case rel => exact ⟨i + 1, by omega, rfl, by go_num, HN⟩
   ·obtain rfl : i = n := by omega
    have dI : decide ((i : Int) < (i : Int)) = false := decide_eq_false (by omega)
    have H1 := Lib.hid (show ∀ j, j < S.length → sB1 S j = false from by rw [← HH.out.2.1]; exact hst.out.2)
    have K0 := Lib.hid hst.out.1
    clear hst hlt
    go_wp2_with fail
    go_loopg [7] i (fun g kv wr => ∃ k, k ≤ i ∧ g = i - k ∧ kv = .int .i64 (k : Nat) ∧ Hid (KB F0 w0 wr ∧ ∀ j, j < k → endB S j = false))
    case atStart => exact ⟨0, by omega, by omega, rfl, Lib.hid ⟨K0.out, fun j hj => by omega⟩⟩
    case round =>
     obtain ⟨k, hk, rfl, rfl, hst⟩ := hrel
     by_cases hlt : k < i
     ·have hkI : (k : Int) < (i : Int) := by omega
      have dk : decide ((k : Int) < (i : Int)) = true := decide_eq_true hkI
      have CL := rzEndless_any S (inR_of H1.out) HH.out.2.2.2 (len8_of H1.out) k 49 (by rw [← HH.out.2.1]; exact hlt) a c wr (HH.out.1.kbF hst.out.1)
      rw [← HH.out.2.1] at CL
      obtain ⟨z, hz⟩ : ∃ z, z = endB S k := ⟨_, rfl⟩
      rw [← hz] at CL
      have HZ := Lib.hid hz
      have CL2 := Lib.hid CL
      clear CL hz
      go_wp2_with fail
      refine CL2.out.mono ?_
      rintro e w1 ⟨rfl, k1⟩
      have K1 := Lib.hid (hst.out.1.trans k1)
      clear k1
      cases z with
      | true =>
       have HG : Hid (¬ GoodS S) := Lib.hid (fun hg => by have := hg.b2 k (by rw [← HH.out.2.1]; exact hlt); rw [← HZ.out] at this; cases this)
       go_wp2_with fail
       go_ret2
       exact rzEnd_no HG.out K1.out
      | false =>
       have HN : Hid (KB F0 w0 w1 ∧ ∀ j, j < k + 1 → endB S j = false) := Lib.hid ⟨K1.out, fun j hj => by
        rcases Nat.lt_or_eq_of_le (Nat.lt_succ_iff.1 hj) with h1 | rfl
        ·exact hst.out.2 j h1
        ·exact HZ.out.symm⟩
       go_wp2_with fail
       go_roundg (i - (k + 1))
       case measure => omega
       case rel => exact ⟨k + 1, by omega, rfl, by go_num, HN⟩
     ·obtain rfl : k = i := by omega
      have dk : decide ((k : Int) < (k : Int)) = false := decide_eq_false (by omega)
      have H2 := Lib.hid (show ∀ j, j < S.length → endB S j = false from by rw [← HH.out.2.1]; exact hst.out.2)
      have K0 := Lib.hid hst.out.1
      clear hst hlt
      go_wp2_with fail
      go_loopg [8] k (fun g mv wr => ∃ m, m ≤ k ∧ g = k - m ∧ mv = .int .i64 (m : Nat) ∧ Hid (KB F0 w0 wr ∧ ∀ j, j < m → sB3 S j = false))
      case atStart => exact ⟨0, by omega, by omega, rfl, Lib.hid ⟨K0.out, fun j hj => by omega⟩⟩
      case round =>
       obtain ⟨m, hm, rfl, rfl, hst⟩ := hrel
       by_cases hlt : m < k
       ·have hmI : (m : Int) < (k : Int) := by omega
        have dm : decide ((m : Int) < (k : Int)) = true := decide_eq_true hmI
        have hmS : m < S.length := by rw [← HH.out.2.1]; exact hlt
        have CL := rzWords_any S (inR_of H1.out) HH.out.2.2.2 (len8_of H1.out) 49 a c 34 (by omega) 16 (by omega) (sTy m) none 0 wr ((finD_all (inR_of H1.out) H2.out (sTy m)).le (by have := HH.out.2.2.2; omega)) (fun _ => ⟨by show (0 : Int) ≤ (m : Int); omega, by show (m : Int) < _; omega⟩) (HH.out.1.kbF hst.out.1)
        unfold tyV at CL
        have HB : Hid (∀ x, WM 16 (wF S 34 (sTy m)) 34 x → sB3 S m = decide (16 < x)) := Lib.hid (fun x hx => by
         unfold sB3
         rw [Bool.eq_iff_iff]
         simp only [decide_eq_true_eq]
         obtain ⟨h1, h2, -⟩ := hx
         by_cases h : wF S 34 (sTy m) ≤ 16
         ·rw [h1 h]
         ·exact ⟨fun _ => h2 (by omega), fun _ => by omega⟩)
        rw [← HH.out.2.1] at CL
        generalize wF S 34 (sTy m) = y at CL HB
        unfold sTy at CL
        simp only [Ty.k, Ty.m, Ty.r, Ty.s, Ty.of, List.length_nil] at CL
        have CL2 := Lib.hid CL
        clear CL hmS
        go_wp2_with fail
        refine CL2.out.mono ?_
        rintro e w1 ⟨x, rfl, hx, k1⟩
        have K1 := Lib.hid (hst.out.1.trans k1)
        have HX := Lib.hid (HB.out x hx)
        clear k1 hx
        by_cases h16 : 16 < x
        ·have d1 : decide ((16 : Int) < (x : Int)) = true := decide_eq_true (by omega)
         have d2 : decide (16 < x) = true := decide_eq_true h16
         have d3 : (16 : Int) < (x : Int) := by omega
         have HG : Hid (¬ GoodS S) := Lib.hid (fun hg => by have := hg.b3 m (by rw [← HH.out.2.1]; exact hlt); rw [HX.out, d2] at this; cases this)
         go_wp2_with fail
         go_ret2
         exact rzEnd_no HG.out K1.out
        ·have d1 : decide ((16 : Int) < (x : Int)) = false := decide_eq_false (by omega)
         have d2 : decide (16 < x) = false := decide_eq_false h16
         have d3 : ¬ ((16 : Int) < (x : Int)) := by omega
         have HN : Hid (KB F0 w0 w1 ∧ ∀ j, j < m + 1 → sB3 S j = false) := Lib.hid ⟨K1.out, fun j hj => by
          rcases Nat.lt_or_eq_of_le (Nat.lt_succ_iff.1 hj) with h1 | rfl
          ·exact hst.out.2 j h1
          ·rw [HX.out]; exact d2⟩
         go_wp2_with fail
         go_roundg (k - (m + 1))
         case measure => omega
         case rel => exact ⟨m + 1, by omega, rfl, by go_num, HN⟩
       ·obtain rfl : m = k := by omega
        have dm : decide ((m : Int) < (m : Int)) = false := decide_eq_false (by omega)
        have HG : Hid (GoodS S) := Lib.hid ⟨HH.out.2.2.2, H1.out, H2.out, by rw [← HH.out.2.1]; exact hst.out.2⟩
        have K9 := Lib.hid hst.out.1
        clear hst
        go_wp2_with fail
        go_ret2
        exact rzEnd_yes HG.out K9.out
set_option maxRecDepth 100000 in
set_option maxHeartbeats 16000000 in
theorem rzMay_any (S : List (List Ty)) (hn : S.length ≤ 1000000) (hl : ∀ i, (fds S i).length ≤ 1000000) (a : Option Addr) (c : Nat) (t : Ty) (ta : Option Addr) (tc : Nat) (w : World) (h : StsAt 49 w a S) (ht : TyAt 49 w t ta tc) :
  Calls Tryz.prog 41 #[.slice a S.length c, tyV t ta tc] w (BoolEnd (MayT S t) w) := by
 obtain ⟨w0, rfl⟩ : ∃ w0, w0 = w := ⟨_, rfl⟩
 obtain ⟨W, hW⟩ : ∃ W, W = w0.alloc (.cells #[.int .u8 t.k, .bool t.m, .int .i64 t.r, .int .i64 t.s, .slice ta t.of.length tc] 26) := ⟨_, rfl⟩
 obtain ⟨kb, hb⟩ := boxTy w0 t ta tc
 rw [← hW] at kb hb
 have ST := Lib.hid (rzStructs_any S hn hl a c W (h.kbF kb))
 have LK := fun (V : World) (hV : KB F0 W V) => rzLook_any S.length 48 (by omega) t ta tc V (ht.kbF (kb.trans hV))
 obtain ⟨z, hz⟩ : ∃ z, z = lookB S.length 48 t := ⟨_, rfl⟩
 rw [← hz] at LK
 have HZ := Lib.hid hz
 have HW := Lib.hid hW
 have HB := Lib.hid (And.intro kb hb)
 unfold tyV at LK ⊢
 obtain ⟨LS, hLS⟩ : ∃ L, L = S.length := ⟨_, rfl⟩
 rw [← hLS] at ST LK ⊢
 have LK2 := Lib.hid LK
 clear kb hb hW h ht hn hl hz LK hLS
 generalize t.k = tk at *
 generalize t.m = tm at *
 generalize t.r = tr at *
 generalize t.s = ts at *
 generalize t.of.length = tl at *
 go_enter Tryz.func41, Tryz.ntmps41
 go_upto_region 1 with fail
 rw [← HW.out]
 go_wp2_with fail
 refine ST.out.mono ?_
 rintro e w1 ⟨q, ok, rfl, hok, k1⟩
 have K1 := Lib.hid (And.intro hok k1)
 have hb1 := k1.heap (fun x => x) HB.out.2
 have c0 : w1.cell? ⟨w0.heap.size, 0, none⟩ = some (.int .u8 tk) := blk_cell hb1 0
 have c1 : w1.cell? ⟨w0.heap.size, 1, none⟩ = some (.bool tm) := blk_cell hb1 1
 have c2 : w1.cell? ⟨w0.heap.size, 2, none⟩ = some (.int .i64 tr) := blk_cell hb1 2
 have c3 : w1.cell? ⟨w0.heap.size, 3, none⟩ = some (.int .i64 ts) := blk_cell hb1 3
 have c4 : w1.cell? ⟨w0.heap.size, 4, none⟩ = some (.slice ta tl tc) := blk_cell hb1 4
 clear k1 hok hb1 ST
 cases ok with
 | false =>
  rw [show stErr false = 2 from rfl]
  go_wp2_with fail
  go_ret
  exact ⟨false, rfl, Iff.intro (fun e => absurd e (by decide)) (fun e => absurd (K1.out.1.2 e.1) (by decide)), HB.out.1.trans K1.out.2⟩
 | true =>
  rw [show stErr true = 0 from rfl]
  go_wp2_with fail
  refine (LK2.out w1 K1.out.2).mono ?_
  rintro e w2 ⟨rfl, k2⟩
  have K2 := Lib.hid k2
  clear k2 c0 c1 c2 c3 c4
  go_wp2_with fail
  go_ret
  exact ⟨z, rfl, Iff.intro (fun e => ⟨K1.out.1.1 (by first | rfl | trivial), by rw [← HZ.out]; exact e⟩) (fun e => by rw [HZ.out]; exact e.2), HB.out.1.trans (K1.out.2.trans K2.out)⟩
set_option maxRecDepth 100000 in
set_option maxHeartbeats 16000000 in
theorem rzW_any (S : List (List Ty)) (hn : S.length ≤ 1000000) (hl : ∀ i, (fds S i).length ≤ 1000000) (a : Option Addr) (c : Nat) (t : Ty) (ta : Option Addr) (tc : Nat) (w : World) (h : StsAt 49 w a S) (ht : TyAt 49 w t ta tc) :
  Calls Tryz.prog 82 #[.slice a S.length c, tyV t ta tc] w (tyWEnd S t w) := by
 obtain ⟨w0, rfl⟩ : ∃ w0, w0 = w := ⟨_, rfl⟩
 obtain ⟨W, hW⟩ : ∃ W, W = w0.alloc (.cells #[.int .u8 t.k, .bool t.m, .int .i64 t.r, .int .i64 t.s, .slice ta t.of.length tc] 26) := ⟨_, rfl⟩
 obtain ⟨kb, hb⟩ := boxTy w0 t ta tc
 rw [← hW] at kb hb
 have MY := Lib.hid (rzMay_any S hn hl a c t ta tc W (h.kbF kb) (ht.kbF kb))
 have WD := Lib.hid (fun (V : World) (hV : KB F0 W V) (hm : MayT S t) => rzWords_any S hm.1.inR hm.1.len (fun i => Nat.le_trans (hm.1.len8 i) (by omega)) 49 a c 34 (by omega) 16 (by omega) t ta tc V (hm.1.fin t) (look_inT hm.2) (h.kbF (kb.trans hV)))
 have HW := Lib.hid hW
 have HB := Lib.hid (And.intro kb hb)
 obtain ⟨c0, c1, c2, c3, c4⟩ := TyCells.of_block hb
 simp only [Nat.zero_add] at c0 c1 c2 c3 c4
 have HX : Hid (∀ x, MayT S t → WM 16 (wF S 34 t) 34 x → x = wF S 34 t) := Lib.hid (fun x hm hx => hx.1 (hm.1.w16 34 t (hm.1.fin t) (look_inT hm.2)))
 unfold tyV at MY WD ⊢
 obtain ⟨LS, hLS⟩ : ∃ L, L = S.length := ⟨_, rfl⟩
 rw [← hLS] at MY WD ⊢
 obtain ⟨P, hP⟩ : ∃ P, P = MayT S t := ⟨_, rfl⟩
 have HE : Hid (∀ e w', (P ∧ e = .returned (.tuple #[.int .i64 (wF S 34 t : Nat), .int .i64 0]) ∧ KB F0 w0 w') ∨ (¬ P ∧ e = .returned (.tuple #[.int .i64 0, .int .i64 2]) ∧ KB F0 w0 w') → tyWEnd S t w0 e w') := Lib.hid (fun e w' h => by rw [hP] at h; exact h)
 rw [← hP] at MY WD HX
 generalize wF S 34 t = y at *
 clear kb hb hW h ht hn hl hLS hP
 generalize t.k = tk at *
 generalize t.m = tm at *
 generalize t.r = tr at *
 generalize t.s = ts at *
 generalize t.of.length = tl at *
 go_enter Tryz.func82, Tryz.ntmps82
 go_upto_region 1 with fail
 rw [← HW.out]
 go_wp2_with fail
 refine MY.out.mono ?_
 rintro e w1 ⟨ok, rfl, hok, k1⟩
 have K1 := Lib.hid (And.intro hok k1)
 have hb1 := k1.heap (fun x => x) HB.out.2
 clear c0 c1 c2 c3 c4
 have c0 : w1.cell? ⟨w0.heap.size, 0, none⟩ = some (.int .u8 tk) := blk_cell hb1 0
 have c1 : w1.cell? ⟨w0.heap.size, 1, none⟩ = some (.bool tm) := blk_cell hb1 1
 have c2 : w1.cell? ⟨w0.heap.size, 2, none⟩ = some (.int .i64 tr) := blk_cell hb1 2
 have c3 : w1.cell? ⟨w0.heap.size, 3, none⟩ = some (.int .i64 ts) := blk_cell hb1 3
 have c4 : w1.cell? ⟨w0.heap.size, 4, none⟩ = some (.slice ta tl tc) := blk_cell hb1 4
 clear k1 hok hb1 MY
 cases ok with
 | false =>
  go_wp2_with fail
  go_ret2
  exact HE.out _ _ (Or.inr ⟨fun hp => absurd (K1.out.1.2 hp) (by decide), rfl, HB.out.1.trans K1.out.2⟩)
 | true =>
  go_wp2_with fail
  refine (WD.out w1 K1.out.2 (K1.out.1.1 (by first | rfl | trivial))).mono ?_
  rintro e w2 ⟨x, rfl, hx, k2⟩
  have hxe := HX.out x (K1.out.1.1 (by first | rfl | trivial)) hx
  subst hxe
  have K2 := Lib.hid k2
  clear k2 hx c0 c1 c2 c3 c4
  go_wp2_with fail
  go_ret2
  exact HE.out _ _ (Or.inl ⟨K1.out.1.1 (by first | rfl | trivial), rfl, HB.out.1.trans (K1.out.2.trans K2.out)⟩)
end Go.Proofs.YtaeppaaolkcbbaaGreatDoor

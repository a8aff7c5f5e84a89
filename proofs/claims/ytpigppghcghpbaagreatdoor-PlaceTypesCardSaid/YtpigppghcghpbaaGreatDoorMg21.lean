/- loanwordref09.words. loanwordref09.Structs; types.May, may. -/
import Derived.Test.YtpigppghcghpbaaGreatDoorTyI
import Derived.Test.YtpigppghcghpbaaGreatDoorTyM
import Derived.Test.YtpigppghcghpbaaGreatDoorMg20
namespace Go.Proofs.YtpigppghcghpbaaGreatDoor
open Go.RowKit

/-- What the document's count tells: the words as far as the limit. -/
def WR (y n x : Nat) : Prop := (y ≤ 16 → x = y) ∧ (16 < y → 16 < x) ∧ x ≤ 17 * n + 1
set_option maxRecDepth 100000 in
set_option maxHeartbeats 32000000 in
theorem rtWords_any (S : List (List Ty)) (hS : InR S) (h32 : S.length ≤ 32) (h8 : ∀ i, (fds S i).length ≤ 100) (d : Nat) (a : Option Addr) (c : Nat) : ∀ (n : Nat), n ≤ 1000 → ∀ (t : Ty) (ta : Option Addr) (tc : Nat) (w : World), FinD S n t → InT S t → StsAt d w a S →
    Calls Tryz.prog 86 #[.slice a S.length c, tyV t ta tc] w fun e w' => ∃ x : Nat, e = .returned (.int .i64 (x : Nat)) ∧ WR (wF S n t) n x ∧ KB F0 w w' := by
  intro n
  induction n with
  | zero => intro _ t ta tc w h; exact h.elim
  | succ n ih =>
    intro hn t ta tc w hfin hin h
    obtain ⟨w0, rfl⟩ : ∃ w0, w0 = w := ⟨_, rfl⟩
    obtain ⟨W, hW⟩ : ∃ W, W = w0.alloc (.cells #[.int .u8 t.k, .bool t.m, .int .i64 t.r, .int .i64 t.s, .slice ta t.of.length tc] 36) := ⟨_, rfl⟩
    obtain ⟨kb, hb⟩ := boxTy w0 t ta tc
    rw [← hW] at kb hb
    have HW := Lib.hid hW
    have HB := Lib.hid (And.intro kb hb)
    have g0 : W.cell? ⟨w0.heap.size, 0, none⟩ = some (.int .u8 t.k) := blk_cell hb 0
    have g3 : W.cell? ⟨w0.heap.size, 3, none⟩ = some (.int .i64 t.s) := blk_cell hb 3
    obtain ⟨LS, hLS⟩ : ∃ L, L = S.length := ⟨_, rfl⟩
    have HLS := Lib.hid hLS
    rw [← hLS] at h32 ⊢
    clear kb hb hW hLS
    unfold tyV
    by_cases hk : t.k = 5
    · obtain ⟨u, hu⟩ : ∃ u : Nat, t.s = (u : Int) := ⟨t.s.toNat, by have := hin hk; omega⟩
      have hun : t.s.toNat = u := by omega
      have huL : u < LS := by have := hin hk; rw [HLS.out]; omega
      have huI : (u : Int) < (LS : Int) := by omega
      obtain ⟨sb, so, snm, sfa, sfc, rfl, -, hsl0, hsc, hfd⟩ := h u (by rw [← HLS.out]; exact huL)
      have hsl := HB.out.1.cell (p := ⟨sb, so + u * 2 + 1, none⟩) (fun x => x) hsl0
      obtain ⟨F, hF⟩ : ∃ F, F = S.getD u [] := ⟨_, rfl⟩
      rw [← hF] at hsl hsc hfd
      obtain ⟨Lf, hLf⟩ : ∃ L, L = F.length := ⟨_, rfl⟩
      rw [← hLf] at hsl hsc
      have hLf100 : Lf ≤ 100 := by rw [hLf, hF]; exact h8 u
      have hLu : Lf = (fds S u).length := by rw [hLf, hF]; rfl
      have HF : Hid (∀ i, i < Lf → FinD S n ((fds S u).getD i ty0) ∧ InT S ((fds S u).getD i ty0)) := Lib.hid (fun i hi => by
        have hm := fds_mem (S := S) (u := u) (i := i) (by omega)
        exact ⟨hfin hk _ (by rw [hun]; exact hm), hS.inT hm⟩)
      have HU := Lib.hid (And.intro hF (And.intro hLf (And.intro hsc (And.intro hfd hLu))))
      have HR : Hid (wF S (n + 1) t = wsum S n u Lf) := Lib.hid (by rw [wF_struct hk, hun, hLu])
      have IH := Lib.hid (fun (i : Nat) (hi : i < Lf) (fa' : Option Addr) (fc' : Nat) (V : World) (hV : KB F0 w0 V) => ih (by omega) ((fds S u).getD i ty0) fa' fc' V (HF.out i hi).1 (HF.out i hi).2 (h.kbF hV))
      rw [← HLS.out] at IH
      rw [hk] at g0
      rw [hu] at g3 HW
      rw [hu, hk]
      rw [hk] at HW
      generalize t.m = tm at HW ⊢
      generalize t.r = tr at HW ⊢
      generalize t.of.length = tl at HW ⊢
      rw [HR.out]
      have hfd2 := HU.out.2.2.2.1
      have HSL := Lib.hid hsl
      have HG := Lib.hid (And.intro g0 g3)
      have hn100 : n ≤ 1000 := by omega
      clear hfin hin h ih hsl0 hsc hfd hF hLf hLu hk hun hu hS h8 hfd2
      go_enter Tryz.func86, Tryz.ntmps86
      go_upto_region 1 with fail
      rw [← HW.out]
      go_wp2_with fail
      clear hsl g0 g3
      go_loopg [6, 5] Lf (fun g iv sv wr => ∃ i s, i ≤ Lf ∧ g = Lf - i ∧ iv = .int .i64 (i : Nat) ∧ sv = .int .i64 (s : Nat) ∧ Hid (KB F0 W wr ∧ (wsum S n u i ≤ 16 ∧ s = wsum S n u i ∨ 16 < s ∧ 16 < wsum S n u Lf ∧ s ≤ 17 * (n + 1) + 1)))
      case atStart => exact ⟨0, 0, by omega, by omega, rfl, rfl, Lib.hid ⟨KB.refl _ _, Or.inl ⟨by rw [wsum_zero]; omega, by rw [wsum_zero]⟩⟩⟩
      case round =>
        obtain ⟨i, s, hi, rfl, rfl, rfl, hst⟩ := hrel
        obtain ⟨wi, rfl⟩ : ∃ w, w = wr := ⟨_, rfl⟩
        have hkw := Lib.hid hst.out.1
        have hsl := hkw.out.cell (p := ⟨sb, so + u * 2 + 1, none⟩) (fun x => x) HSL.out
        have g0 := hkw.out.cell (p := ⟨w0.heap.size, 0, none⟩) (fun x => x) HG.out.1
        have g3 := hkw.out.cell (p := ⟨w0.heap.size, 3, none⟩) (fun x => x) HG.out.2
        by_cases hlt : i < Lf
        · have hiI : (i : Int) < (Lf : Int) := by omega
          have dI : decide ((i : Int) < (Lf : Int)) = true := decide_eq_true hiI
          by_cases h16 : s ≤ 16
          · have hs16I : (s : Int) ≤ 16 := by omega
            have d16 : decide ((s : Int) ≤ 16) = true := decide_eq_true hs16I
            obtain ⟨fb, fo, fnm, fa', fc', rfl, hnm, hty, -⟩ := HU.out.2.2.2.1 i (by rw [← HU.out.2.1]; exact hlt)
            obtain ⟨t0, t1, t2, t3, t4⟩ := hty.kbF (HB.out.1.trans hkw.out)
            have hFi : F.getD i ty0 = (fds S u).getD i ty0 := by rw [HU.out.1]; rfl
            rw [hFi] at t0 t1 t2 t3 t4
            have IHi := IH.out i hlt fa' fc'
            have hsu : wsum S n u (i + 1) = wsum S n u i + wF S n ((fds S u).getD i ty0) := wsum_succ (by rw [← HU.out.2.2.2.2]; exact hlt)
            have HTL := Lib.hid (show wsum S n u (i + 1) ≤ wsum S n u Lf from by rw [HU.out.2.2.2.2]; exact wsum_le)
            generalize (fds S u).getD i ty0 = f at t0 t1 t2 t3 t4 IHi hsu
            have hse : s = wsum S n u i ∧ wsum S n u i ≤ 16 := by
              rcases hst.out.2 with h | h
              · exact ⟨h.2, h.1⟩
              · omega
            obtain ⟨y, hy⟩ : ∃ y, y = wF S n f := ⟨_, rfl⟩
            rw [← hy] at IHi hsu
            unfold tyV at IHi
            have HI := Lib.hid IHi
            have HX := Lib.hid (And.intro hsu hse)
            have HSS := Lib.hid hst.out.1
            clear hnm hty hFi hsu hse hy IHi hst
            generalize f.k = fk at t0 HI
            generalize f.m = fm at t1 HI
            generalize f.r = fr at t2 HI
            generalize f.s = fs at t3 HI
            generalize f.of.length = N at t4 HI
            go_wp2_with fail
            refine (HI.out _ (HB.out.1.trans hkw.out)).mono ?_
            rintro e w5 ⟨x, rfl, hx, k5⟩
            have K5 := Lib.hid (hkw.out.trans k5)
            have hxb := hx.2.2
            have HXX := Lib.hid hx
            have hwr : IntKind.i64.wrap ((s : Int) + (x : Int)) = ((s + x : Nat) : Int) := by rw [w64 (by omega) (by omega)]; omega
            have HN : Hid (wsum S n u (i + 1) ≤ 16 ∧ s + x = wsum S n u (i + 1) ∨ 16 < s + x ∧ 16 < wsum S n u Lf ∧ s + x ≤ 17 * (n + 1) + 1) := Lib.hid (by
              have h1 := HX.out
              have h2 := HTL.out
              by_cases hy : y ≤ 16
              · have := hx.1 hy
                by_cases h3 : wsum S n u (i + 1) ≤ 16
                · exact Or.inl ⟨h3, by omega⟩
                · exact Or.inr ⟨by omega, by omega, by omega⟩
              · have := hx.2.1 (by omega)
                exact Or.inr ⟨by omega, by omega, by omega⟩)
            clear k5 hsl g0 g3 t0 t1 t2 t3 t4 hx hxb
            go_wp2_with fail
            go_roundg (Lf - (i + 1))
            case measure => omega
            case rel => exact ⟨i + 1, s + x, by omega, rfl, by go_num, by go_num, Lib.hid ⟨K5.out, HN.out⟩⟩
          · have hs16I : ¬ ((s : Int) ≤ 16) := by omega
            have d16 : decide ((s : Int) ≤ 16) = false := decide_eq_false hs16I
            have HN : Hid (WR (wsum S n u Lf) (n + 1) s) := Lib.hid (by
              rcases hst.out.2 with h | h
              · omega
              · exact ⟨fun h1 => by omega, fun _ => h.1, by omega⟩)
            have HK := Lib.hid (HB.out.1.trans hkw.out)
            clear hst hkw
            go_wp2_with fail
            go_ret
            exact ⟨_, rfl, HN.out, HK.out⟩
        · obtain rfl : i = Lf := by omega
          have dI : decide ((i : Int) < (i : Int)) = false := decide_eq_false (by omega)
          have HN : Hid (WR (wsum S n u i) (n + 1) s) := Lib.hid (by
            rcases hst.out.2 with h | h
            · exact ⟨fun _ => h.2, fun h1 => by omega, by omega⟩
            · exact ⟨fun h1 => by omega, fun _ => h.1, by omega⟩)
          have HK := Lib.hid (HB.out.1.trans hkw.out)
          clear hst hkw
          go_wp2_with fail
          go_ret
          exact ⟨_, rfl, HN.out, HK.out⟩
    · have hk2 : (t.k != 5) = true := by simpa using hk
      have HR : Hid (wF S (n + 1) t = 1) := Lib.hid (by simp [wF, hk])
      rw [HR.out]
      generalize t.k = tk at g0 HW hk2 ⊢
      generalize t.m = tm at HW ⊢
      generalize t.r = tr at HW ⊢
      generalize t.s = ts at HW ⊢
      generalize t.of.length = tl at HW ⊢
      clear hk hfin hin h ih hS h8 g3
      go_enter Tryz.func86, Tryz.ntmps86
      go_upto_region 1 with fail
      rw [← HW.out]
      go_wp2_with fail
      go_ret
      exact ⟨1, rfl, ⟨fun _ => rfl, fun h => by omega, by omega⟩, HB.out.1⟩
end Go.Proofs.YtpigppghcghpbaaGreatDoor

namespace Go.Proofs.YtpigppghcghpbaaGreatDoor
open Go.RowKit

theorem sB1_of {S : List (List Ty)} {i : Nat} (h1 : ¬ (fds S i).length < 1) (h8 : ¬ 8 < (fds S i).length) (h : ∀ q, q < (fds S i).length → badF S.length ((fds S i).getD q ty0) = false) : sB1 S i = false := by
  unfold sB1
  rw [decide_eq_false h1, decide_eq_false h8, any_none (d := ty0) h]; rfl
theorem not_good1 {S : List (List Ty)} {i : Nat} (hi : i < S.length) (h : sB1 S i = true) : ¬ GoodS S := fun hg => by rw [hg.b1 i hi] at h; cases h
def OkEnd (S : List (List Ty)) (w : World) (e : Ending) (w' : World) : Prop := ∃ ok : Bool, e = .returned (.bool ok) ∧ (ok = true ↔ GoodS S) ∧ KB F0 w w'
theorem okEnd_no {S : List (List Ty)} {w w' : World} (h : ¬ GoodS S) (hk : KB F0 w w') : OkEnd S w (.returned (.bool false)) w' := ⟨false, rfl, ⟨fun h => (by cases h), fun hg => (h hg).elim⟩, hk⟩
theorem okEnd_yes {S : List (List Ty)} {w w' : World} (h : GoodS S) (hk : KB F0 w w') : OkEnd S w (.returned (.bool true)) w' := ⟨true, rfl, ⟨fun _ => h, fun _ => rfl⟩, hk⟩
set_option maxRecDepth 100000 in
set_option maxHeartbeats 32000000 in
theorem rtStructs_any (S : List (List Ty)) (hn : S.length ≤ 1000000) (hl : ∀ i, (fds S i).length ≤ 1000000) (a : Option Addr) (c : Nat) (w : World) (h : StsAt 49 w a S) :
    Calls Tryz.prog 61 #[.slice a S.length c] w (OkEnd S w) := by
  obtain ⟨w0, rfl⟩ : ∃ w0, w0 = w := ⟨_, rfl⟩
  obtain ⟨n, hnn⟩ : ∃ n, n = S.length := ⟨_, rfl⟩
  rw [← hnn]
  by_cases h32 : S.length ≤ 32
  case neg =>
    have hng : Hid (¬ GoodS S) := Lib.hid (fun hg => h32 hg.len)
    have g1 : (32 : Int) < (n : Int) := by omega
    have g2 : decide ((32 : Int) < (n : Int)) = true := decide_eq_true g1
    have g3 : decide (32 < n) = true := decide_eq_true (by omega)
    clear h hl hnn h32 hn
    go_enter Tryz.func61, Tryz.ntmps61
    go_wp2_with fail
    go_ret
    exact okEnd_no hng.out (KB.refl _ _)
  case pos =>
    have g1 : ¬ ((32 : Int) < (n : Int)) := by omega
    have g2 : decide ((32 : Int) < (n : Int)) = false := decide_eq_false g1
    have g3 : decide (32 < n) = false := decide_eq_false (by omega)
    have hn32 : n ≤ 32 := by omega
    have HH := Lib.hid (And.intro h (And.intro hnn (And.intro hl h32)))
    clear h hl hnn h32 hn
    go_enter Tryz.func61, Tryz.ntmps61
    go_wp2_with fail
    clear g1 g2 g3
    go_loopg [3] n (fun g iv wr => ∃ i, i ≤ n ∧ g = n - i ∧ iv = .int .i64 (i : Nat) ∧ Hid (KB F0 w0 wr ∧ ∀ j, j < i → sB1 S j = false))
    case atStart => exact ⟨0, by omega, by omega, rfl, Lib.hid ⟨KB.refl _ _, fun j hj => by omega⟩⟩
    case round =>
      obtain ⟨i, hi, rfl, rfl, hst⟩ := hrel
      by_cases hlt : i < n
      · have hiI : (i : Int) < (n : Int) := by omega
        have dI : decide ((i : Int) < (n : Int)) = true := decide_eq_true hiI
        have hiS : i < S.length := by rw [← HH.out.2.1]; exact hlt
        obtain ⟨sb, so, snm, sfa, sfc, rfl, -, hsl0, hsc, hfd⟩ := HH.out.1 i hiS
        have hsl := hst.out.1.cell (p := ⟨sb, so + i * 2 + 1, none⟩) (fun x => x) hsl0
        obtain ⟨F, hF⟩ : ∃ F, F = fds S i := ⟨_, rfl⟩
        rw [show S.getD i [] = F from hF.symm] at hsl hsc hfd hsl0
        obtain ⟨L, hL⟩ : ∃ L, L = F.length := ⟨_, rfl⟩
        rw [← hL] at hsl hsc hsl0
        have hLm : L ≤ 1000000 := by rw [hL, hF]; exact HH.out.2.2.1 i
        have HU := Lib.hid (And.intro hF (And.intro hL (And.intro hsc (And.intro hfd (And.intro hiS hsl0)))))
        clear hF hL hsc hfd hiS hsl0
        by_cases hL1 : L < 1
        · have d1 : decide ((L : Int) < 1) = true := decide_eq_true (by omega)
          obtain rfl : L = 0 := by omega
          have HG : Hid (¬ GoodS S) := Lib.hid (not_good1 HU.out.2.2.2.2.1 (by unfold sB1; rw [← HU.out.1, ← HU.out.2.1]; rfl))
          go_wp2_with fail
          go_ret
          exact okEnd_no HG.out hst.out.1
        · have d1 : decide ((L : Int) < 1) = false := decide_eq_false (by omega)
          have d1n : decide (L < 1) = false := decide_eq_false hL1
          have e1 : ¬ ((L : Int) < 1) := by omega
          by_cases hL8 : 8 < L
          · have d8 : decide ((8 : Int) < (L : Int)) = true := decide_eq_true (by omega)
            have d8n : decide (8 < L) = true := decide_eq_true hL8
            have e8 : (8 : Int) < (L : Int) := by omega
            have HG : Hid (¬ GoodS S) := Lib.hid (not_good1 HU.out.2.2.2.2.1 (by unfold sB1; rw [← HU.out.1, ← HU.out.2.1, d1n, d8n]; rfl))
            go_wp2_with fail
            go_ret
            exact okEnd_no HG.out hst.out.1
          · have d8 : decide ((8 : Int) < (L : Int)) = false := decide_eq_false (by omega)
            have d8n : decide (8 < L) = false := decide_eq_false hL8
            have e8 : ¬ ((8 : Int) < (L : Int)) := by omega
            go_wp2_with fail
            clear hsl
            go_loopg [4] L (fun g qv wr => ∃ q, q ≤ L ∧ g = L - q ∧ qv = .int .i64 (q : Nat) ∧ Hid (KB F0 w0 wr ∧ ∀ j, j < q → badF S.length (F.getD j ty0) = false))
            case atStart => exact ⟨0, by omega, by omega, rfl, Lib.hid ⟨hst.out.1, fun j hj => by omega⟩⟩
            case round =>
              obtain ⟨q, hq, rfl, rfl, hsq⟩ := hrel
              have hsl := hsq.out.1.cell (p := ⟨sb, so + i * 2 + 1, none⟩) (fun x => x) HU.out.2.2.2.2.2
              by_cases hqt : q < L
              · have hqI : (q : Int) < (L : Int) := by omega
                have dq : decide ((q : Int) < (L : Int)) = true := decide_eq_true hqI
                obtain ⟨fb, fo, fnm, fa', fc', rfl, hnm, hty, hta⟩ := HU.out.2.2.2.1 q (by rw [← HU.out.2.1]; exact hqt)
                obtain ⟨t0, t1, t2, t3, t4⟩ := hty.kbF hsq.out.1
                have CL := rtMay_any S.length false 48 (by omega) (F.getD q ty0) fa' fc' wr (hta.kbF hsq.out.1)
                unfold tyV at CL
                rw [← HH.out.2.1] at CL
                obtain ⟨z, hz⟩ : ∃ z, z = mayB n false 48 (F.getD q ty0) := ⟨_, rfl⟩
                rw [← hz] at CL
                have HZ : Hid (badF S.length (F.getD q ty0) = !z) := Lib.hid (by rw [hz]; unfold badF; rw [HH.out.2.1])
                have CL2 := Lib.hid CL
                generalize F.getD q ty0 = f at t0 t1 t2 t3 t4 CL2
                clear hnm hty hta CL hz
                obtain ⟨fk, hfk⟩ : ∃ x, x = f.k := ⟨_, rfl⟩
                rw [← hfk] at t0 CL2
                obtain ⟨fm, hfm⟩ : ∃ x, x = f.m := ⟨_, rfl⟩
                rw [← hfm] at t1 CL2
                obtain ⟨fr, hfr⟩ : ∃ x, x = f.r := ⟨_, rfl⟩
                rw [← hfr] at t2 CL2
                obtain ⟨fs, hfs⟩ : ∃ x, x = f.s := ⟨_, rfl⟩
                rw [← hfs] at t3 CL2
                obtain ⟨N, hN⟩ : ∃ x, x = f.of.length := ⟨_, rfl⟩
                rw [← hN] at t4 CL2
                clear hfk hfm hfr hfs hN
                go_wp2_with fail
                refine CL2.out.mono ?_
                rintro e w1 ⟨rfl, k1⟩
                have K1 := Lib.hid (hsq.out.1.trans k1)
                clear k1 t0 t1 t2 t3 t4 hsl CL2
                cases z with
                | true =>
                  have HN : Hid (KB F0 w0 w1 ∧ ∀ j, j < q + 1 → badF S.length (F.getD j ty0) = false) := Lib.hid ⟨K1.out, fun j hj => by
                    rcases Nat.lt_or_eq_of_le (Nat.lt_succ_iff.1 hj) with h1 | rfl
                    · exact hsq.out.2 j h1
                    · rw [HZ.out]; rfl⟩
                  go_wp2_with fail
                  go_roundg (L - (q + 1))
                  case measure => omega
                  case rel => exact ⟨q + 1, by omega, rfl, by go_num, HN⟩
                | false =>
                  have HG : Hid (¬ GoodS S) := Lib.hid (not_good1 HU.out.2.2.2.2.1 (by
                    unfold sB1
                    rw [← HU.out.1, any_getD (d := ty0) (by rw [← HU.out.2.1]; exact hqt) (by rw [HZ.out]; rfl)]
                    simp))
                  go_wp2_with fail
                  go_ret
                  exact okEnd_no HG.out K1.out
              · obtain rfl : q = L := by omega
                have dq : decide ((q : Int) < (q : Int)) = false := decide_eq_false (by omega)
                have HN : Hid (KB F0 w0 wr ∧ ∀ j, j < i + 1 → sB1 S j = false) := Lib.hid ⟨hsq.out.1, fun j hj => by
                  rcases Nat.lt_or_eq_of_le (Nat.lt_succ_iff.1 hj) with h1 | rfl
                  · exact hst.out.2 j h1
                  · refine sB1_of ?_ ?_ ?_
                    · rw [← HU.out.1, ← HU.out.2.1]; exact hL1
                    · rw [← HU.out.1, ← HU.out.2.1]; exact hL8
                    · intro p hp
                      rw [← HU.out.1, ← HU.out.2.1] at hp
                      rw [← HU.out.1]; exact hsq.out.2 p hp⟩
                clear hsq hqt
                go_wp2_with fail
                go_roundg (n - (i + 1))
                case measure => omega
                case rel => exact ⟨i + 1, by omega, rfl, by go_num, HN⟩
      · obtain rfl : i = n := by omega
        have dI : decide ((i : Int) < (i : Int)) = false := decide_eq_false (by omega)
        have H1 := Lib.hid (show ∀ j, j < S.length → sB1 S j = false from by rw [← HH.out.2.1]; exact hst.out.2)
        have K0 := Lib.hid hst.out.1
        clear hst hlt
        go_wp2_with fail
        go_loopg [5] i (fun g kv wr => ∃ k, k ≤ i ∧ g = i - k ∧ kv = .int .i64 (k : Nat) ∧ Hid (KB F0 w0 wr ∧ ∀ j, j < k → endB S j = false))
        case atStart => exact ⟨0, by omega, by omega, rfl, Lib.hid ⟨K0.out, fun j hj => by omega⟩⟩
        case round =>
          obtain ⟨k, hk, rfl, rfl, hst⟩ := hrel
          by_cases hlt : k < i
          · have hkI : (k : Int) < (i : Int) := by omega
            have dk : decide ((k : Int) < (i : Int)) = true := decide_eq_true hkI
            have CL := rtEndless_any S (inR_of H1.out) HH.out.2.2.2 (len8_of H1.out) k 49 (by rw [← HH.out.2.1]; exact hlt) a c wr (HH.out.1.kbF hst.out.1)
            rw [← HH.out.2.1] at CL
            obtain ⟨z, hz⟩ : ∃ z, z = endB S k := ⟨_, rfl⟩
            rw [← hz] at CL
            have HZ := Lib.hid hz
            have CL2 := Lib.hid CL
            clear CL hz
            go_wp2_with fail
            refine CL2.out.mono ?_
            rintro e w1 ⟨rfl, k1⟩
            have K1 := Lib.hid (hst.out.1.trans k1)
            clear k1
            cases z with
            | true =>
              have HG : Hid (¬ GoodS S) := Lib.hid (fun hg => by have := hg.b2 k (by rw [← HH.out.2.1]; exact hlt); rw [← HZ.out] at this; cases this)
              go_wp2_with fail
              go_ret
              exact okEnd_no HG.out K1.out
            | false =>
              have HN : Hid (KB F0 w0 w1 ∧ ∀ j, j < k + 1 → endB S j = false) := Lib.hid ⟨K1.out, fun j hj => by
                rcases Nat.lt_or_eq_of_le (Nat.lt_succ_iff.1 hj) with h1 | rfl
                · exact hst.out.2 j h1
                · exact HZ.out.symm⟩
              go_wp2_with fail
              go_roundg (i - (k + 1))
              case measure => omega
              case rel => exact ⟨k + 1, by omega, rfl, by go_num, HN⟩
          · obtain rfl : k = i := by omega
            have dk : decide ((k : Int) < (k : Int)) = false := decide_eq_false (by omega)
            have H2 := Lib.hid (show ∀ j, j < S.length → endB S j = false from by rw [← HH.out.2.1]; exact hst.out.2)
            have K0 := Lib.hid hst.out.1
            clear hst hlt
            go_wp2_with fail
            go_loopg [6] k (fun g mv wr => ∃ m, m ≤ k ∧ g = k - m ∧ mv = .int .i64 (m : Nat) ∧ Hid (KB F0 w0 wr ∧ ∀ j, j < m → sB3 S j = false))
            case atStart => exact ⟨0, by omega, by omega, rfl, Lib.hid ⟨K0.out, fun j hj => by omega⟩⟩
            case round =>
              obtain ⟨m, hm, rfl, rfl, hst⟩ := hrel
              by_cases hlt : m < k
              · have hmI : (m : Int) < (k : Int) := by omega
                have dm : decide ((m : Int) < (k : Int)) = true := decide_eq_true hmI
                have hmS : m < S.length := by rw [← HH.out.2.1]; exact hlt
                have CL := rtWords_any S (inR_of H1.out) HH.out.2.2.2 (len8_of H1.out) 49 a c 34 (by omega) (sTy m) none 0 wr ((finD_all (inR_of H1.out) H2.out (sTy m)).le (by have := HH.out.2.2.2; omega)) (fun _ => ⟨by show (0 : Int) ≤ (m : Int); omega, by show (m : Int) < _; omega⟩) (HH.out.1.kbF hst.out.1)
                unfold tyV at CL
                have HB : Hid (∀ x, WR (wF S 34 (sTy m)) 34 x → sB3 S m = decide (16 < x)) := Lib.hid (fun x hx => by
                  unfold sB3
                  rw [Bool.eq_iff_iff]
                  simp only [decide_eq_true_eq]
                  obtain ⟨h1, h2, -⟩ := hx
                  by_cases h : wF S 34 (sTy m) ≤ 16
                  · rw [h1 h]
                  · exact ⟨fun _ => h2 (by omega), fun _ => by omega⟩)
                rw [← HH.out.2.1] at CL
                generalize wF S 34 (sTy m) = y at CL HB
                unfold sTy at CL
                simp only [Ty.k, Ty.m, Ty.r, Ty.s, Ty.of, List.length_nil] at CL
                have CL2 := Lib.hid CL
                clear CL hmS
                go_wp2_with fail
                refine CL2.out.mono ?_
                rintro e w1 ⟨x, rfl, hx, k1⟩
                have K1 := Lib.hid (hst.out.1.trans k1)
                have HX := Lib.hid (HB.out x hx)
                clear k1 hx
                by_cases h16 : 16 < x
                · have d1 : decide ((16 : Int) < (x : Int)) = true := decide_eq_true (by omega)
                  have d2 : decide (16 < x) = true := decide_eq_true h16
                  have d3 : (16 : Int) < (x : Int) := by omega
                  have HG : Hid (¬ GoodS S) := Lib.hid (fun hg => by have := hg.b3 m (by rw [← HH.out.2.1]; exact hlt); rw [HX.out, d2] at this; cases this)
                  go_wp2_with fail
                  go_ret
                  exact okEnd_no HG.out K1.out
                · have d1 : decide ((16 : Int) < (x : Int)) = false := decide_eq_false (by omega)
                  have d2 : decide (16 < x) = false := decide_eq_false h16
                  have d3 : ¬ ((16 : Int) < (x : Int)) := by omega
                  have HN : Hid (KB F0 w0 w1 ∧ ∀ j, j < m + 1 → sB3 S j = false) := Lib.hid ⟨K1.out, fun j hj => by
                    rcases Nat.lt_or_eq_of_le (Nat.lt_succ_iff.1 hj) with h1 | rfl
                    · exact hst.out.2 j h1
                    · rw [HX.out]; exact d2⟩
                  go_wp2_with fail
                  go_roundg (k - (m + 1))
                  case measure => omega
                  case rel => exact ⟨m + 1, by omega, rfl, by go_num, HN⟩
              · obtain rfl : m = k := by omega
                have dm : decide ((m : Int) < (m : Int)) = false := decide_eq_false (by omega)
                have HG : Hid (GoodS S) := Lib.hid ⟨HH.out.2.2.2, H1.out, H2.out, by rw [← HH.out.2.1]; exact hst.out.2⟩
                have K9 := Lib.hid hst.out.1
                clear hst
                go_wp2_with fail
                go_ret
                exact okEnd_yes HG.out K9.out
end Go.Proofs.YtpigppghcghpbaaGreatDoor

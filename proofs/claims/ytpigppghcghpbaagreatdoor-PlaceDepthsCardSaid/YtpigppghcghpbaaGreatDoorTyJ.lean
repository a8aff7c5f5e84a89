/- loanwordref09.words. -/
import Derived.Test.YtpigppghcghpbaaGreatDoorTyI
namespace Go.Proofs.YtpigppghcghpbaaGreatDoor
open Go.RowKit

/-- What the document's count tells: the words as far as the limit. -/
def WR (y n x : Nat) : Prop := (y ≤ 16 → x = y) ∧ (16 < y → 16 < x) ∧ x ≤ 17 * n + 1
set_option maxRecDepth 100000 in
set_option maxHeartbeats 32000000 in
theorem rtWords_any (S : List (List Ty)) (hS : InR S) (h32 : S.length ≤ 32) (h8 : ∀ i, (fds S i).length ≤ 100) (d : Nat) (a : Option Addr) (c : Nat) : ∀ (n : Nat), n ≤ 1000 → ∀ (t : Ty) (ta : Option Addr) (tc : Nat) (w : World), FinD S n t → InT S t → StsAt d w a S →
    Calls Tryz.prog 86 #[.slice a S.length c, tyV t ta tc] w fun e w' => ∃ x : Nat, e = .returned (.int .i64 (x : Nat)) ∧ WR (wF S n t) n x ∧ KB F0 w w' := by
  intro n
  induction n with
  | zero => intro _ t ta tc w h; exact h.elim
  | succ n ih =>
    intro hn t ta tc w hfin hin h
    obtain ⟨w0, rfl⟩ : ∃ w0, w0 = w := ⟨_, rfl⟩
    obtain ⟨W, hW⟩ : ∃ W, W = w0.alloc (.cells #[.int .u8 t.k, .bool t.m, .int .i64 t.r, .int .i64 t.s, .slice ta t.of.length tc] 36) := ⟨_, rfl⟩
    obtain ⟨kb, hb⟩ := boxTy w0 t ta tc
    rw [← hW] at kb hb
    have HW := Lib.hid hW
    have HB := Lib.hid (And.intro kb hb)
    have g0 : W.cell? ⟨w0.heap.size, 0, none⟩ = some (.int .u8 t.k) := blk_cell hb 0
    have g3 : W.cell? ⟨w0.heap.size, 3, none⟩ = some (.int .i64 t.s) := blk_cell hb 3
    obtain ⟨LS, hLS⟩ : ∃ L, L = S.length := ⟨_, rfl⟩
    have HLS := Lib.hid hLS
    rw [← hLS] at h32 ⊢
    clear kb hb hW hLS
    unfold tyV
    by_cases hk : t.k = 5
    · obtain ⟨u, hu⟩ : ∃ u : Nat, t.s = (u : Int) := ⟨t.s.toNat, by have := hin hk; omega⟩
      have hun : t.s.toNat = u := by omega
      have huL : u < LS := by have := hin hk; rw [HLS.out]; omega
      have huI : (u : Int) < (LS : Int) := by omega
      obtain ⟨sb, so, snm, sfa, sfc, rfl, -, hsl0, hsc, hfd⟩ := h u (by rw [← HLS.out]; exact huL)
      have hsl := HB.out.1.cell (p := ⟨sb, so + u * 2 + 1, none⟩) (fun x => x) hsl0
      obtain ⟨F, hF⟩ : ∃ F, F = S.getD u [] := ⟨_, rfl⟩
      rw [← hF] at hsl hsc hfd
      obtain ⟨Lf, hLf⟩ : ∃ L, L = F.length := ⟨_, rfl⟩
      rw [← hLf] at hsl hsc
      have hLf100 : Lf ≤ 100 := by rw [hLf, hF]; exact h8 u
      have hLu : Lf = (fds S u).length := by rw [hLf, hF]; rfl
      have HF : Hid (∀ i, i < Lf → FinD S n ((fds S u).getD i ty0) ∧ InT S ((fds S u).getD i ty0)) := Lib.hid (fun i hi => by
        have hm := fds_mem (S := S) (u := u) (i := i) (by omega)
        exact ⟨hfin hk _ (by rw [hun]; exact hm), hS.inT hm⟩)
      have HU := Lib.hid (And.intro hF (And.intro hLf (And.intro hsc (And.intro hfd hLu))))
      have HR : Hid (wF S (n + 1) t = wsum S n u Lf) := Lib.hid (by rw [wF_struct hk, hun, hLu])
      have IH := Lib.hid (fun (i : Nat) (hi : i < Lf) (fa' : Option Addr) (fc' : Nat) (V : World) (hV : KB F0 w0 V) => ih (by omega) ((fds S u).getD i ty0) fa' fc' V (HF.out i hi).1 (HF.out i hi).2 (h.kbF hV))
      rw [← HLS.out] at IH
      rw [hk] at g0
      rw [hu] at g3 HW
      rw [hu, hk]
      rw [hk] at HW
      generalize t.m = tm at HW ⊢
      generalize t.r = tr at HW ⊢
      generalize t.of.length = tl at HW ⊢
      rw [HR.out]
      have hfd2 := HU.out.2.2.2.1
      have HSL := Lib.hid hsl
      have HG := Lib.hid (And.intro g0 g3)
      have hn100 : n ≤ 1000 := by omega
      clear hfin hin h ih hsl0 hsc hfd hF hLf hLu hk hun hu hS h8 hfd2
      go_enter Tryz.func86, Tryz.ntmps86
      go_upto_region 1 with fail
      rw [← HW.out]
      go_wp2_with fail
      clear hsl g0 g3
      go_loopg [6, 5] Lf (fun g iv sv wr => ∃ i s, i ≤ Lf ∧ g = Lf - i ∧ iv = .int .i64 (i : Nat) ∧ sv = .int .i64 (s : Nat) ∧ Hid (KB F0 W wr ∧ (wsum S n u i ≤ 16 ∧ s = wsum S n u i ∨ 16 < s ∧ 16 < wsum S n u Lf ∧ s ≤ 17 * (n + 1) + 1)))
      case atStart => exact ⟨0, 0, by omega, by omega, rfl, rfl, Lib.hid ⟨KB.refl _ _, Or.inl ⟨by rw [wsum_zero]; omega, by rw [wsum_zero]⟩⟩⟩
      case round =>
        obtain ⟨i, s, hi, rfl, rfl, rfl, hst⟩ := hrel
        obtain ⟨wi, rfl⟩ : ∃ w, w = wr := ⟨_, rfl⟩
        have hkw := Lib.hid hst.out.1
        have hsl := hkw.out.cell (p := ⟨sb, so + u * 2 + 1, none⟩) (fun x => x) HSL.out
        have g0 := hkw.out.cell (p := ⟨w0.heap.size, 0, none⟩) (fun x => x) HG.out.1
        have g3 := hkw.out.cell (p := ⟨w0.heap.size, 3, none⟩) (fun x => x) HG.out.2
        by_cases hlt : i < Lf
        · have hiI : (i : Int) < (Lf : Int) := by omega
          have dI : decide ((i : Int) < (Lf : Int)) = true := decide_eq_true hiI
          by_cases h16 : s ≤ 16
          · have hs16I : (s : Int) ≤ 16 := by omega
            have d16 : decide ((s : Int) ≤ 16) = true := decide_eq_true hs16I
            obtain ⟨fb, fo, fnm, fa', fc', rfl, hnm, hty, -⟩ := HU.out.2.2.2.1 i (by rw [← HU.out.2.1]; exact hlt)
            obtain ⟨t0, t1, t2, t3, t4⟩ := hty.kbF (HB.out.1.trans hkw.out)
            have hFi : F.getD i ty0 = (fds S u).getD i ty0 := by rw [HU.out.1]; rfl
            rw [hFi] at t0 t1 t2 t3 t4
            have IHi := IH.out i hlt fa' fc'
            have hsu : wsum S n u (i + 1) = wsum S n u i + wF S n ((fds S u).getD i ty0) := wsum_succ (by rw [← HU.out.2.2.2.2]; exact hlt)
            have HTL := Lib.hid (show wsum S n u (i + 1) ≤ wsum S n u Lf from by rw [HU.out.2.2.2.2]; exact wsum_le)
            generalize (fds S u).getD i ty0 = f at t0 t1 t2 t3 t4 IHi hsu
            have hse : s = wsum S n u i ∧ wsum S n u i ≤ 16 := by
              rcases hst.out.2 with h | h
              · exact ⟨h.2, h.1⟩
              · omega
            obtain ⟨y, hy⟩ : ∃ y, y = wF S n f := ⟨_, rfl⟩
            rw [← hy] at IHi hsu
            unfold tyV at IHi
            have HI := Lib.hid IHi
            have HX := Lib.hid (And.intro hsu hse)
            have HSS := Lib.hid hst.out.1
            clear hnm hty hFi hsu hse hy IHi hst
            generalize f.k = fk at t0 HI
            generalize f.m = fm at t1 HI
            generalize f.r = fr at t2 HI
            generalize f.s = fs at t3 HI
            generalize f.of.length = N at t4 HI
            go_wp2_with fail
            refine (HI.out _ (HB.out.1.trans hkw.out)).mono ?_
            rintro e w5 ⟨x, rfl, hx, k5⟩
            have K5 := Lib.hid (hkw.out.trans k5)
            have hxb := hx.2.2
            have HXX := Lib.hid hx
            have hwr : IntKind.i64.wrap ((s : Int) + (x : Int)) = ((s + x : Nat) : Int) := by rw [w64 (by omega) (by omega)]; omega
            have HN : Hid (wsum S n u (i + 1) ≤ 16 ∧ s + x = wsum S n u (i + 1) ∨ 16 < s + x ∧ 16 < wsum S n u Lf ∧ s + x ≤ 17 * (n + 1) + 1) := Lib.hid (by
              have h1 := HX.out
              have h2 := HTL.out
              by_cases hy : y ≤ 16
              · have := hx.1 hy
                by_cases h3 : wsum S n u (i + 1) ≤ 16
                · exact Or.inl ⟨h3, by omega⟩
                · exact Or.inr ⟨by omega, by omega, by omega⟩
              · have := hx.2.1 (by omega)
                exact Or.inr ⟨by omega, by omega, by omega⟩)
            clear k5 hsl g0 g3 t0 t1 t2 t3 t4 hx hxb
            go_wp2_with fail
            go_roundg (Lf - (i + 1))
            case measure => omega
            case rel => exact ⟨i + 1, s + x, by omega, rfl, by go_num, by go_num, Lib.hid ⟨K5.out, HN.out⟩⟩
          · have hs16I : ¬ ((s : Int) ≤ 16) := by omega
            have d16 : decide ((s : Int) ≤ 16) = false := decide_eq_false hs16I
            have HN : Hid (WR (wsum S n u Lf) (n + 1) s) := Lib.hid (by
              rcases hst.out.2 with h | h
              · omega
              · exact ⟨fun h1 => by omega, fun _ => h.1, by omega⟩)
            have HK := Lib.hid (HB.out.1.trans hkw.out)
            clear hst hkw
            go_wp2_with fail
            go_ret
            exact ⟨_, rfl, HN.out, HK.out⟩
        · obtain rfl : i = Lf := by omega
          have dI : decide ((i : Int) < (i : Int)) = false := decide_eq_false (by omega)
          have HN : Hid (WR (wsum S n u i) (n + 1) s) := Lib.hid (by
            rcases hst.out.2 with h | h
            · exact ⟨fun _ => h.2, fun h1 => by omega, by omega⟩
            · exact ⟨fun h1 => by omega, fun _ => h.1, by omega⟩)
          have HK := Lib.hid (HB.out.1.trans hkw.out)
          clear hst hkw
          go_wp2_with fail
          go_ret
          exact ⟨_, rfl, HN.out, HK.out⟩
    · have hk2 : (t.k != 5) = true := by simpa using hk
      have HR : Hid (wF S (n + 1) t = 1) := Lib.hid (by simp [wF, hk])
      rw [HR.out]
      generalize t.k = tk at g0 HW hk2 ⊢
      generalize t.m = tm at HW ⊢
      generalize t.r = tr at HW ⊢
      generalize t.s = ts at HW ⊢
      generalize t.of.length = tl at HW ⊢
      clear hk hfin hin h ih hS h8 g3
      go_enter Tryz.func86, Tryz.ntmps86
      go_upto_region 1 with fail
      rw [← HW.out]
      go_wp2_with fail
      go_ret
      exact ⟨1, rfl, ⟨fun _ => rfl, fun h => by omega, by omega⟩, HB.out.1⟩
end Go.Proofs.YtpigppghcghpbaaGreatDoor

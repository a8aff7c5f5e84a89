/- types.words, loanwordref09.words. -/
import Derived.Test.YtpigppghcghpbaaGreatDoorMg16
import Derived.Deep.DeepCutAuto
namespace Go.Proofs.YtpigppghcghpbaaGreatDoor
open Go.RowKit

/-- A struct's number is one of the list's. -/
def InT (S : List (List Ty)) (t : Ty) : Prop := t.k = 5 → 0 ≤ t.s ∧ t.s < (S.length : Int)
theorem InR.inT {S : List (List Ty)} (h : InR S) {i : Nat} {f : Ty} (hf : f ∈ fds S i) : InT S f := h i f hf
theorem fds_mem {S : List (List Ty)} {u i : Nat} (h : i < (fds S u).length) : (fds S u).getD i ty0 ∈ fds S u := by
  rw [List.getD_eq_getElem?_getD, List.getElem?_eq_getElem h]; exact List.getElem_mem h
def wsum (S : List (List Ty)) (n u i : Nat) : Nat := (((fds S u).map (wF S n)).take i).sum
theorem wsum_zero (S : List (List Ty)) (n u : Nat) : wsum S n u 0 = 0 := by simp [wsum]
theorem wsum_succ {S : List (List Ty)} {n u i : Nat} (h : i < (fds S u).length) : wsum S n u (i + 1) = wsum S n u i + wF S n ((fds S u).getD i ty0) := by
  unfold wsum
  rw [sum_take_succ (by simpa using h)]
  congr 1
  simp [List.getD_eq_getElem?_getD, List.getElem?_eq_getElem h]
theorem wsum_le {S : List (List Ty)} {n u i : Nat} : wsum S n u i ≤ wsum S n u (fds S u).length := by
  unfold wsum
  have h1 := sum_take_le (l := (fds S u).map (wF S n)) i
  have h2 : ((fds S u).map (wF S n)).take (fds S u).length = (fds S u).map (wF S n) := List.take_of_length_le (by simp)
  rw [h2]; exact h1
theorem wF_struct {S : List (List Ty)} {n : Nat} {t : Ty} (h : t.k = 5) : wF S (n + 1) t = wsum S n t.s.toNat (fds S t.s.toNat).length := by
  unfold wsum
  rw [List.take_of_length_le (by simp)]
  simp [wF, h]
set_option maxRecDepth 100000 in
set_option maxHeartbeats 32000000 in
theorem tyWords_any (S : List (List Ty)) (hS : InR S) (h32 : S.length ≤ 32) (h8 : ∀ i, (fds S i).length ≤ 100) (d : Nat) (a : Option Addr) (c : Nat) : ∀ (n : Nat) (t : Ty) (ta : Option Addr) (tc : Nat) (w : World), FinD S n t → InT S t → StsAt d w a S →
    Calls Tryz.prog 82 #[.slice a S.length c, tyV t ta tc] w fun e w' => e = .returned (.int .i64 (min (wF S n t) 17 : Nat)) ∧ KB F0 w w' := by
  intro n
  induction n with
  | zero => intro t ta tc w h; exact h.elim
  | succ n ih =>
    intro t ta tc w hfin hin h
    obtain ⟨w0, rfl⟩ : ∃ w0, w0 = w := ⟨_, rfl⟩
    obtain ⟨W, hW⟩ : ∃ W, W = w0.alloc (.cells #[.int .u8 t.k, .bool t.m, .int .i64 t.r, .int .i64 t.s, .slice ta t.of.length tc] 36) := ⟨_, rfl⟩
    obtain ⟨kb, hb⟩ := boxTy w0 t ta tc
    rw [← hW] at kb hb
    have HW := Lib.hid hW
    have HB := Lib.hid (And.intro kb hb)
    have g0 : W.cell? ⟨w0.heap.size, 0, none⟩ = some (.int .u8 t.k) := blk_cell hb 0
    have g3 : W.cell? ⟨w0.heap.size, 3, none⟩ = some (.int .i64 t.s) := blk_cell hb 3
    obtain ⟨LS, hLS⟩ : ∃ L, L = S.length := ⟨_, rfl⟩
    have HLS := Lib.hid hLS
    rw [← hLS] at h32 ⊢
    clear kb hb hW hLS
    unfold tyV
    by_cases hk : t.k = 5
    · obtain ⟨u, hu⟩ : ∃ u : Nat, t.s = (u : Int) := ⟨t.s.toNat, by have := hin hk; omega⟩
      have hun : t.s.toNat = u := by omega
      have huL : u < LS := by have := hin hk; rw [HLS.out]; omega
      have huI : (u : Int) < (LS : Int) := by omega
      obtain ⟨sb, so, snm, sfa, sfc, rfl, -, hsl0, hsc, hfd⟩ := h u (by rw [← HLS.out]; exact huL)
      have hsl := HB.out.1.cell (p := ⟨sb, so + u * 2 + 1, none⟩) (fun x => x) hsl0
      obtain ⟨F, hF⟩ : ∃ F, F = S.getD u [] := ⟨_, rfl⟩
      rw [← hF] at hsl hsc hfd
      obtain ⟨Lf, hLf⟩ : ∃ L, L = F.length := ⟨_, rfl⟩
      rw [← hLf] at hsl hsc
      have hLf100 : Lf ≤ 100 := by rw [hLf, hF]; exact h8 u
      have hLu : Lf = (fds S u).length := by rw [hLf, hF]; rfl
      have HF : Hid (∀ i, i < Lf → FinD S n ((fds S u).getD i ty0) ∧ InT S ((fds S u).getD i ty0)) := Lib.hid (fun i hi => by
        have hm := fds_mem (S := S) (u := u) (i := i) (by omega)
        exact ⟨hfin hk _ (by rw [hun]; exact hm), hS.inT hm⟩)
      have HU := Lib.hid (And.intro hF (And.intro hLf (And.intro hsc (And.intro hfd hLu))))
      have HR : Hid (wF S (n + 1) t = wsum S n u Lf) := Lib.hid (by rw [wF_struct hk, hun, hLu])
      have IH := Lib.hid (fun (i : Nat) (hi : i < Lf) (fa' : Option Addr) (fc' : Nat) (V : World) (hV : KB F0 w0 V) => ih ((fds S u).getD i ty0) fa' fc' V (HF.out i hi).1 (HF.out i hi).2 (h.kbF hV))
      rw [← HLS.out] at IH
      rw [hk] at g0
      rw [hu] at g3 HW
      rw [hu, hk]
      rw [hk] at HW
      generalize t.m = tm at HW ⊢
      generalize t.r = tr at HW ⊢
      generalize t.of.length = tl at HW ⊢
      rw [HR.out]
      have hfd2 := HU.out.2.2.2.1
      clear hfin hin h ih hsl0 hsc hfd hF hLf hLu hk hun hu hS h8 hfd2
      go_enter Tryz.func82, Tryz.ntmps82
      go_upto_region 1 with fail
      rw [← HW.out]
      go_wp2_with fail
      go_loopg [18, 5] Lf (fun g iv sv wr => ∃ i, i ≤ Lf ∧ g = Lf - i ∧ iv = .int .i64 (i : Nat) ∧ wsum S n u i ≤ 16 ∧ sv = .int .i64 (wsum S n u i : Nat) ∧ Hid (KB F0 w0 wr))
      case atStart => exact ⟨0, by omega, by omega, rfl, by rw [wsum_zero]; omega, by rw [wsum_zero]; rfl, Lib.hid HB.out.1⟩
      case round =>
        obtain ⟨i, hi, rfl, rfl, hs16, rfl, hkw⟩ := hrel
        obtain ⟨wi, rfl⟩ : ∃ w, w = wr := ⟨_, rfl⟩
        by_cases hlt : i < Lf
        · have hiI : (i : Int) < (Lf : Int) := by omega
          have dI : decide ((i : Int) < (Lf : Int)) = true := decide_eq_true hiI
          obtain ⟨fb, fo, fnm, fa', fc', rfl, hnm, hty, -⟩ := HU.out.2.2.2.1 i (by rw [← HU.out.2.1]; exact hlt)
          have n0 := hkw.out.cell (p := ⟨fb, fo + i * 6, none⟩) (fun x => x) hnm
          obtain ⟨t0, t1, t2, t3, t4⟩ := hty.kbF hkw.out
          have hFi : F.getD i ty0 = (fds S u).getD i ty0 := by rw [HU.out.1]; rfl
          rw [hFi] at t0 t1 t2 t3 t4
          have IHi := Lib.hid (IH.out i hlt fa' fc')
          have hsu : wsum S n u (i + 1) = wsum S n u i + wF S n ((fds S u).getD i ty0) := wsum_succ (by rw [← HU.out.2.2.2.2]; exact hlt)
          have HTL := Lib.hid (show wsum S n u (i + 1) ≤ wsum S n u Lf from by rw [HU.out.2.2.2.2]; exact wsum_le)
          generalize (fds S u).getD i ty0 = f at t0 t1 t2 t3 t4 IHi hsu
          obtain ⟨x, hx⟩ : ∃ x, x = min (wF S n f) 17 := ⟨_, rfl⟩
          rw [← hx] at IHi
          unfold tyV at IHi
          have HX := Lib.hid (And.intro hx hsu)
          obtain ⟨s, hs⟩ : ∃ s, s = wsum S n u i := ⟨_, rfl⟩
          rw [← hs] at hs16 ⊢
          have HS := Lib.hid hs
          have hx17 : x ≤ 17 := by omega
          clear hnm hty hFi hx hsu hs
          generalize f.k = fk at t0 IHi
          generalize f.m = fm at t1 IHi
          generalize f.r = fr at t2 IHi
          generalize f.s = fs at t3 IHi
          generalize f.of.length = N at t4 IHi
          have ka := (KB.refl F0 wi).alloc (.cells #[.string fnm, .int .u8 fk, .bool fm, .int .i64 fr, .int .i64 fs, .slice fa' N fc'] 69)
          have KA := Lib.hid ka
          have hwr : IntKind.i64.wrap ((s : Int) + (x : Int)) = ((s + x : Nat) : Int) := by rw [w64 (by omega) (by omega)]; omega
          clear ka
          go_wp2_with fail
          refine (IHi.out _ (hkw.out.trans KA.out)).mono ?_
          rintro e w5 ⟨rfl, k5⟩
          have K5 := Lib.hid (hkw.out.trans (KA.out.trans k5))
          clear k5 n0 t0 t1 t2 t3 t4
          by_cases h16 : s + x ≤ 16
          · have d16 : decide ((16 : Int) < (s : Int) + (x : Int)) = false := decide_eq_false (by omega)
            have d16n : decide (16 < s + x) = false := decide_eq_false (by omega)
            have HN : Hid (wsum S n u (i + 1) = s + x) := Lib.hid (by have := HX.out; have := HS.out; omega)
            go_wp2_with fail
            go_roundg (Lf - (i + 1))
            case measure => omega
            case rel => exact ⟨i + 1, by omega, rfl, by go_num, by rw [HN.out]; exact h16, by rw [HN.out]; first | rfl | go_num, K5⟩
          · have d16 : decide ((16 : Int) < (s : Int) + (x : Int)) = true := decide_eq_true (by omega)
            have d16n : decide (16 < s + x) = true := decide_eq_true (by omega)
            have HN : Hid (min (wsum S n u Lf) 17 = 17) := Lib.hid (by have := HX.out; have := HS.out; have := HTL.out; omega)
            go_wp2_with fail
            go_ret
            exact ⟨ret_int (by rw [HN.out]; rfl), K5.out⟩
        · obtain rfl : i = Lf := by omega
          have dI : decide ((i : Int) < (i : Int)) = false := decide_eq_false (by omega)
          have HN : Hid (min (wsum S n u i) 17 = wsum S n u i) := Lib.hid (by omega)
          go_wp2_with fail
          go_ret
          exact ⟨ret_int (by rw [HN.out]), hkw.out⟩
    · have hk2 : (t.k != 5) = true := by simpa using hk
      have HR : Hid (min (wF S (n + 1) t) 17 = 1) := Lib.hid (by simp [wF, hk])
      rw [HR.out]
      generalize t.k = tk at g0 HW hk2 ⊢
      generalize t.m = tm at HW ⊢
      generalize t.r = tr at HW ⊢
      generalize t.s = ts at HW ⊢
      generalize t.of.length = tl at HW ⊢
      clear hk hfin hin h ih hS h8 g3
      go_enter Tryz.func82, Tryz.ntmps82
      go_upto_region 1 with fail
      rw [← HW.out]
      go_wp2_with fail
      go_ret
      exact ⟨rfl, HB.out.1⟩
end Go.Proofs.YtpigppghcghpbaaGreatDoor

/- loanwordlaw09.typeFits, fits at any structs, locals and places. -/
import Derived.Test.YtpigppghcghpbaaGreatDoorMg14
import Derived.Test.YtpigppghcghpbaaGreatDoorTyD
import Derived.Deep.DeepCutAuto
import Derived.Deep.LoopGhost
namespace Go.Proofs.YtpigppghcghpbaaGreatDoor
open Go.RowKit

def SomeB (P : Bool → Prop) (w : World) (e : Ending) (w' : World) : Prop := ∃ b : Bool, e = .returned (.bool b) ∧ P b ∧ KB F0 w w'
set_option maxRecDepth 100000 in
set_option maxHeartbeats 32000000 in
theorem typeFits_any : ∀ n : Nat, n ≤ 60 → ∀ (d : Nat), d ≤ n → ∀ (t : Ty) (a : Option Addr) (c : Nat) (w : World), TyAt (n + 1) w t a c →
    Calls Tryz.prog 35 #[tyV t a c, .int .i64 (d : Nat)] w (SomeB (fun _ => True) w) := by
  intro n
  induction n with
  | zero =>
    intro _ d hd t a c w _
    obtain rfl : d = 0 := by omega
    obtain ⟨w0, rfl⟩ : ∃ w0, w0 = w := ⟨_, rfl⟩
    have HK := Lib.hid (boxTy w0 t a c).1
    unfold tyV
    go_enter Tryz.func35, Tryz.ntmps35
    go_wp2_with fail
    go_ret
    exact ⟨_, rfl, trivial, HK.out⟩
  | succ n ih =>
    intro hn d hd t a c w h
    obtain ⟨w0, rfl⟩ : ∃ w0, w0 = w := ⟨_, rfl⟩
    cases d with
    | zero =>
      have HK := Lib.hid (boxTy w0 t a c).1
      clear ih h
      unfold tyV
      go_enter Tryz.func35, Tryz.ntmps35
      go_wp2_with fail
      go_ret
      exact ⟨_, rfl, trivial, HK.out⟩
    | succ d =>
      obtain ⟨W, hW⟩ : ∃ W, W = w0.alloc (.cells #[.int .u8 t.k, .bool t.m, .int .i64 t.r, .int .i64 t.s, .slice a t.of.length c] 36) := ⟨_, rfl⟩
      obtain ⟨kb, hb⟩ := boxTy w0 t a c
      rw [← hW] at kb hb
      obtain ⟨L, hL⟩ : ∃ L, L = t.of.length := ⟨_, rfl⟩
      have c4 : W.cell? ⟨w0.heap.size, 4, none⟩ = some (.slice a L c) := by rw [hL]; exact blk_cell hb 4
      have hLc : L ≤ c := by rw [hL]; exact h.1
      have HI := Lib.hid (fun (i : Nat) (hi : i < L) => h.2 i (by rw [← hL]; exact hi))
      have IH := Lib.hid (fun (x : Int) (h0 : 0 ≤ x) (h1 : x ≤ (n : Int)) (u : Ty) (ua : Option Addr) (uc : Nat) (V : World) (hu : TyAt (n + 1) V u ua uc) => (show Calls Tryz.prog 35 #[tyV u ua uc, .int .i64 x] V (SomeB (fun _ => True) V) from by
        have := ih (by omega) x.toNat (by omega) u ua uc V hu
        rwa [show ((x.toNat : Nat) : Int) = x by omega] at this))
      rw [← hL] at hW
      have HW := Lib.hid hW
      have HK := Lib.hid kb
      have HC4 := Lib.hid c4
      unfold tyV
      rw [← hL]
      have ht0 : (((d + 1 : Nat) : Int) == 0) = false := by first | (simp; done) | (simp; omega)
      have hw1 : IntKind.i64.wrap (((d + 1 : Nat) : Int) - 1) = (d : Int) := by rw [w64 (by omega) (by omega)]; omega
      have hdn : d ≤ n := by omega
      clear hW kb hb hL h ih
      generalize t.k = tk at *
      generalize t.m = tm at *
      generalize t.r = tr at *
      generalize t.s = ts at *
      go_enter Tryz.func35, Tryz.ntmps35
      go_upto_region 1 with fail
      rw [← HW.out]
      by_cases h3 : 3 < L
      · have d3 : decide ((3 : Int) < (L : Int)) = true := decide_eq_true (by omega)
        have d3n : decide (3 < L) = true := decide_eq_true h3
        have d3i : (3 : Int) < (L : Int) := by omega
        go_wp2_with fail
        go_ret
        exact ⟨_, rfl, trivial, HK.out⟩
      · have d3 : decide ((3 : Int) < (L : Int)) = false := decide_eq_false (by omega)
        have d3n : decide (3 < L) = false := decide_eq_false h3
        have d3i : ¬ ((3 : Int) < (L : Int)) := by omega
        go_wp2_with fail
        clear c4 d3 d3n d3i
        go_loopg [5] L (fun g iv wr => ∃ i, i ≤ L ∧ g = L - i ∧ iv = .int .i64 (i : Nat) ∧ Hid (KB F0 W wr))
        case atStart => exact ⟨0, by omega, by omega, rfl, Lib.hid (KB.refl _ _)⟩
        case round =>
          obtain ⟨i, hi, rfl, rfl, hst⟩ := hrel
          have c4 := hst.out.cell (p := ⟨w0.heap.size, 4, none⟩) (fun x => x) HC4.out
          by_cases hit : i < L
          · have hiI : (i : Int) < (L : Int) := by omega
            have dI : decide ((i : Int) < (L : Int)) = true := decide_eq_true hiI
            obtain ⟨b, o, ua, uc, rfl, hty, hta⟩ := HI.out i hit
            obtain ⟨t0, t1, t2, t3, t4⟩ := hty.kbF (HK.out.trans hst.out)
            have hta2 := hta.kbF (HK.out.trans hst.out)
            generalize t.of.getD i ty0 = u at t0 t1 t2 t3 t4 hta2
            have IHu := fun (x : Int) (h0 : 0 ≤ x) (h1 : x ≤ (n : Int)) => IH.out x h0 h1 u ua uc wr hta2
            unfold tyV at IHu
            have IH2 := Lib.hid IHu
            clear hty hta hta2 IHu
            generalize u.k = fk at *
            generalize u.m = fm at *
            generalize u.r = fr at *
            generalize u.s = fs at *
            generalize u.of.length = M at *
            have hi3 : i < 3 := by omega
            have hd60 : (d : Int) ≤ 60 := by omega
            have hdnI : (d : Int) ≤ (n : Int) := by omega
            go_wp2_with fail
            all_goals
              refine (IH2.out _ (by omega) (by omega)).mono ?_
              rintro e w5 ⟨bb, rfl, -, k5⟩
              have K5 := Lib.hid (hst.out.trans k5)
              clear k5 t0 t1 t2 t3 t4 c4
              cases bb
              · go_wp2_with fail
                go_ret
                exact ⟨_, rfl, trivial, HK.out.trans K5.out⟩
              · go_wp2_with fail
                go_roundg (L - (i + 1))
                case measure => omega
                case rel => exact ⟨i + 1, by omega, rfl, by go_num, K5⟩
          · obtain rfl : i = L := by omega
            have dI : decide ((i : Int) < (i : Int)) = false := decide_eq_false (by omega)
            go_wp2_with fail
            go_ret
            exact ⟨_, rfl, trivial, HK.out.trans hst.out⟩
/-- What a statement asks of sizes. -/
structure FitsS (S : List (List Ty)) (L : List Ty) (m : Nat) (NP : Nat → Nat) : Prop where
  s : S.length ≤ 60
  f : ∀ i, (fds S i).length ≤ 60
  l : L.length ≤ 60
  p : ∀ k, k < m → NP k ≤ 60
set_option maxRecDepth 100000 in
set_option maxHeartbeats 32000000 in
theorem fits_any (S : List (List Ty)) (sa : Option Addr) (sc : Nat) (L : List Ty) (la : Option Addr) (lc : Nat) (m : Nat) (hm : m ≤ 10) (NP : Nat → Nat) (b : Nat) (w : World) (hS : StsAt 61 w sa S) (hL : TysAt 61 w la L) (hP : ∀ k, k < m → ∃ a c, w.cell? ⟨b, k * 2 + 1, none⟩ = some (.slice a (NP k) c)) :
    Calls Tryz.prog 9 #[.slice sa S.length sc, .slice la L.length lc, .slice (some ⟨b, 0, none⟩) m m] w (SomeB (fun ok => ok = true → FitsS S L m NP) w) := by
  obtain ⟨w0, rfl⟩ : ∃ w0, w0 = w := ⟨_, rfl⟩
  obtain ⟨nS, hnS⟩ : ∃ n, n = S.length := ⟨_, rfl⟩
  obtain ⟨nL, hnL⟩ : ∃ n, n = L.length := ⟨_, rfl⟩
  have HH := Lib.hid (And.intro hS (And.intro hL (And.intro hP (And.intro hnS hnL))))
  rw [← hnS, ← hnL]
  clear hS hL hP hnS hnL
  go_enter Tryz.func9, Tryz.ntmps9
  by_cases h1 : 60 < nS
  · have d1 : decide ((60 : Int) < (nS : Int)) = true := decide_eq_true (by omega)
    have d1n : decide (60 < nS) = true := decide_eq_true h1
    have d1i : (60 : Int) < (nS : Int) := by omega
    go_wp2_with fail
    go_ret
    exact ⟨false, rfl, fun h => (by cases h), KB.refl _ _⟩
  have d1 : decide ((60 : Int) < (nS : Int)) = false := decide_eq_false (by omega)
  have d1n : decide (60 < nS) = false := decide_eq_false h1
  have d1i : ¬ ((60 : Int) < (nS : Int)) := by omega
  by_cases h2 : 60 < nL
  · have d2 : decide ((60 : Int) < (nL : Int)) = true := decide_eq_true (by omega)
    have d2n : decide (60 < nL) = true := decide_eq_true h2
    have d2i : (60 : Int) < (nL : Int) := by omega
    go_wp2_with fail
    go_ret
    exact ⟨false, rfl, fun h => (by cases h), KB.refl _ _⟩
  have d2 : decide ((60 : Int) < (nL : Int)) = false := decide_eq_false (by omega)
  have d2n : decide (60 < nL) = false := decide_eq_false h2
  have d2i : ¬ ((60 : Int) < (nL : Int)) := by omega
  go_wp2_with fail
  clear d1 d1n d1i d2 d2n d2i
  go_loopg [7] nS (fun g iv wr => ∃ i, i ≤ nS ∧ g = nS - i ∧ iv = .int .i64 (i : Nat) ∧ Hid (KB F0 w0 wr ∧ ∀ j, j < i → (fds S j).length ≤ 60))
  case atStart => exact ⟨0, by omega, by omega, rfl, Lib.hid ⟨KB.refl _ _, fun j hj => by omega⟩⟩
  case round =>
    obtain ⟨i, hi, rfl, rfl, hst⟩ := hrel
    by_cases hit : i < nS
    · have hiI : (i : Int) < (nS : Int) := by omega
      have dI : decide ((i : Int) < (nS : Int)) = true := decide_eq_true hiI
      obtain ⟨sb, so, snm, sfa, sfc, rfl, -, hsl0, hsc, hfd⟩ := HH.out.1 i (by rw [← HH.out.2.2.2.1]; exact hit)
      have hsl := hst.out.1.cell (p := ⟨sb, so + i * 2 + 1, none⟩) (fun x => x) hsl0
      obtain ⟨F, hF⟩ : ∃ F, F = fds S i := ⟨_, rfl⟩
      rw [show S.getD i [] = F from hF.symm] at hsl hsl0 hsc hfd
      obtain ⟨N, hN⟩ : ∃ N, N = F.length := ⟨_, rfl⟩
      rw [← hN] at hsl hsl0 hsc
      have HU := Lib.hid (And.intro hF (And.intro hN (And.intro hsl0 hfd)))
      clear hF hN hsl0 hfd
      by_cases h60 : 60 < N
      · have d1 : decide ((60 : Int) < (N : Int)) = true := decide_eq_true (by omega)
        have d1n : decide (60 < N) = true := decide_eq_true h60
        have d1i : (60 : Int) < (N : Int) := by omega
        go_wp2_with fail
        go_ret
        exact ⟨false, rfl, fun h => (by cases h), hst.out.1⟩
      have d1 : decide ((60 : Int) < (N : Int)) = false := decide_eq_false (by omega)
      have d1n : decide (60 < N) = false := decide_eq_false h60
      have d1i : ¬ ((60 : Int) < (N : Int)) := by omega
      go_wp2_with fail
      clear d1 d1n d1i hsl
      go_loopg [8] N (fun g iv wr => ∃ q, q ≤ N ∧ g = N - q ∧ iv = .int .i64 (q : Nat) ∧ Hid (KB F0 w0 wr))
      case atStart => exact ⟨0, by omega, by omega, rfl, Lib.hid hst.out.1⟩
      case round =>
        obtain ⟨q, hq, rfl, rfl, hsq⟩ := hrel
        have hsl := hsq.out.cell (p := ⟨sb, so + i * 2 + 1, none⟩) (fun x => x) HU.out.2.2.1
        by_cases hqt : q < N
        · have hqI : (q : Int) < (N : Int) := by omega
          have dq : decide ((q : Int) < (N : Int)) = true := decide_eq_true hqI
          obtain ⟨fb, fo, fnm, fa', fc', rfl, hnm, hty, hta⟩ := HU.out.2.2.2 q (by rw [← HU.out.2.1]; exact hqt)
          obtain ⟨t0, t1, t2, t3, t4⟩ := hty.kbF hsq.out
          have CL := typeFits_any 60 (by omega) 60 (by omega) (F.getD q ty0) fa' fc' wr (hta.kbF hsq.out)
          generalize F.getD q ty0 = f at t0 t1 t2 t3 t4 CL
          unfold tyV at CL
          have CL2 := Lib.hid CL
          clear hnm hty hta CL
          generalize f.k = fk at *
          generalize f.m = fm at *
          generalize f.r = fr at *
          generalize f.s = fs at *
          generalize f.of.length = M at *
          go_wp2_with fail
          refine CL2.out.mono ?_
          rintro e w5 ⟨bb, rfl, -, k5⟩
          have K5 := Lib.hid (hsq.out.trans k5)
          clear k5 t0 t1 t2 t3 t4 hsl CL2
          cases bb
          · go_wp2_with fail
            go_ret
            exact ⟨false, rfl, fun h => (by cases h), K5.out⟩
          · go_wp2_with fail
            go_roundg (N - (q + 1))
            case measure => omega
            case rel => exact ⟨q + 1, by omega, rfl, by go_num, K5⟩
        · obtain rfl : q = N := by omega
          have dq : decide ((q : Int) < (q : Int)) = false := decide_eq_false (by omega)
          have HN : Hid (KB F0 w0 wr ∧ ∀ j, j < i + 1 → (fds S j).length ≤ 60) := Lib.hid ⟨hsq.out, fun j hj => by
            rcases Nat.lt_or_eq_of_le (Nat.lt_succ_iff.1 hj) with h1 | rfl
            · exact hst.out.2 j h1
            · rw [← HU.out.1, ← HU.out.2.1]; omega⟩
          go_wp2_with fail
          go_roundg (nS - (i + 1))
          case measure => omega
          case rel => exact ⟨i + 1, by omega, rfl, by go_num, HN⟩
    · obtain rfl : i = nS := by omega
      have dI : decide ((i : Int) < (i : Int)) = false := decide_eq_false (by omega)
      have HF : Hid (∀ j, (fds S j).length ≤ 60) := Lib.hid (fun j => by
        by_cases hj : j < i
        · exact hst.out.2 j hj
        · have : fds S j = [] := by unfold fds; rw [List.getD_eq_getElem?_getD, List.getElem?_eq_none (by rw [← HH.out.2.2.2.1]; omega)]; rfl
          rw [this]; simp)
      have K1 := Lib.hid hst.out.1
      clear hst
      go_wp2_with fail
      go_loopg [9] nL (fun g iv wr => ∃ q, q ≤ nL ∧ g = nL - q ∧ iv = .int .i64 (q : Nat) ∧ Hid (KB F0 w0 wr))
      case atStart => exact ⟨0, by omega, by omega, rfl, Lib.hid K1.out⟩
      case round =>
        obtain ⟨q, hq, rfl, rfl, hsq⟩ := hrel
        by_cases hqt : q < nL
        · have hqI : (q : Int) < (nL : Int) := by omega
          have dq : decide ((q : Int) < (nL : Int)) = true := decide_eq_true hqI
          obtain ⟨fb, fo, fa', fc', rfl, hty, hta⟩ := HH.out.2.1 q (by rw [← HH.out.2.2.2.2]; exact hqt)
          obtain ⟨t0, t1, t2, t3, t4⟩ := hty.kbF hsq.out
          have CL := typeFits_any 60 (by omega) 60 (by omega) (L.getD q ty0) fa' fc' wr (hta.kbF hsq.out)
          generalize L.getD q ty0 = f at t0 t1 t2 t3 t4 CL
          unfold tyV at CL
          have CL2 := Lib.hid CL
          clear hty hta CL
          generalize f.k = fk at *
          generalize f.m = fm at *
          generalize f.r = fr at *
          generalize f.s = fs at *
          generalize f.of.length = M at *
          go_wp2_with fail
          refine CL2.out.mono ?_
          rintro e w5 ⟨bb, rfl, -, k5⟩
          have K5 := Lib.hid (hsq.out.trans k5)
          clear k5 t0 t1 t2 t3 t4 CL2
          cases bb
          · go_wp2_with fail
            go_ret
            exact ⟨false, rfl, fun h => (by cases h), K5.out⟩
          · go_wp2_with fail
            go_roundg (nL - (q + 1))
            case measure => omega
            case rel => exact ⟨q + 1, by omega, rfl, by go_num, K5⟩
        · obtain rfl : q = nL := by omega
          have dq : decide ((q : Int) < (q : Int)) = false := decide_eq_false (by omega)
          have K2 := Lib.hid hsq.out
          clear hsq
          go_wp2_with fail
          go_loopg [10] m (fun g iv wr => ∃ z, z ≤ m ∧ g = m - z ∧ iv = .int .i64 (z : Nat) ∧ Hid (KB F0 w0 wr ∧ ∀ k, k < z → NP k ≤ 60))
          case atStart => exact ⟨0, by omega, by omega, rfl, Lib.hid ⟨K2.out, fun k hk => by omega⟩⟩
          case round =>
            obtain ⟨z, hz, rfl, rfl, hsz⟩ := hrel
            by_cases hzt : z < m
            · have hzI : (z : Int) < (m : Int) := by omega
              have dz : decide ((z : Int) < (m : Int)) = true := decide_eq_true hzI
              obtain ⟨pa, pc, hpc⟩ := HH.out.2.2.1 z hzt
              have hpc := hsz.out.1.cell (p := ⟨b, z * 2 + 1, none⟩) (fun x => x) hpc
              obtain ⟨N, hN⟩ : ∃ N, N = NP z := ⟨_, rfl⟩
              rw [← hN] at hpc
              have HN := Lib.hid hN
              clear hN
              by_cases h60 : 60 < N
              · have d1 : decide ((60 : Int) < (N : Int)) = true := decide_eq_true (by omega)
                have d1n : decide (60 < N) = true := decide_eq_true h60
                have d1i : (60 : Int) < (N : Int) := by omega
                go_wp2_with fail
                go_ret
                exact ⟨false, rfl, fun h => (by cases h), hsz.out.1⟩
              · have d1 : decide ((60 : Int) < (N : Int)) = false := decide_eq_false (by omega)
                have d1n : decide (60 < N) = false := decide_eq_false h60
                have d1i : ¬ ((60 : Int) < (N : Int)) := by omega
                have HR : Hid (KB F0 w0 wr ∧ ∀ k, k < z + 1 → NP k ≤ 60) := Lib.hid ⟨hsz.out.1, fun k hk => by
                  rcases Nat.lt_or_eq_of_le (Nat.lt_succ_iff.1 hk) with h1 | rfl
                  · exact hsz.out.2 k h1
                  · rw [← HN.out]; omega⟩
                go_wp2_with fail
                go_roundg (m - (z + 1))
                case measure => omega
                case rel => exact ⟨z + 1, by omega, rfl, by go_num, HR⟩
            · obtain rfl : z = m := by omega
              have dz : decide ((z : Int) < (z : Int)) = false := decide_eq_false (by omega)
              have HR : Hid (FitsS S L z NP) := Lib.hid ⟨by rw [← HH.out.2.2.2.1]; omega, HF.out, by rw [← HH.out.2.2.2.2]; omega, hsz.out.2⟩
              have K3 := Lib.hid hsz.out.1
              clear hsz
              go_wp2_with fail
              go_ret
              exact ⟨true, rfl, fun _ => HR.out, K3.out⟩
end Go.Proofs.YtpigppghcghpbaaGreatDoor

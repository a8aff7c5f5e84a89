/- loanwordref09.Structs; types.May, may. -/
import Derived.Test.YtpigppghcghpbaaGreatDoorTyM
import Derived.Test.YtpigppghcghpbaaGreatDoorMg22
import Derived.Test.YtpigppghcghpbaaGreatDoorTyJ
namespace Go.Proofs.YtpigppghcghpbaaGreatDoor
open Go.RowKit

theorem sB1_of {S : List (List Ty)} {i : Nat} (h1 : ¬ (fds S i).length < 1) (h8 : ¬ 8 < (fds S i).length) (h : ∀ q, q < (fds S i).length → badF S.length ((fds S i).getD q ty0) = false) : sB1 S i = false := by
  unfold sB1
  rw [decide_eq_false h1, decide_eq_false h8, any_none (d := ty0) h]; rfl
theorem not_good1 {S : List (List Ty)} {i : Nat} (hi : i < S.length) (h : sB1 S i = true) : ¬ GoodS S := fun hg => by rw [hg.b1 i hi] at h; cases h
def OkEnd (S : List (List Ty)) (w : World) (e : Ending) (w' : World) : Prop := ∃ ok : Bool, e = .returned (.bool ok) ∧ (ok = true ↔ GoodS S) ∧ KB F0 w w'
theorem okEnd_no {S : List (List Ty)} {w w' : World} (h : ¬ GoodS S) (hk : KB F0 w w') : OkEnd S w (.returned (.bool false)) w' := ⟨false, rfl, ⟨fun h => (by cases h), fun hg => (h hg).elim⟩, hk⟩
theorem okEnd_yes {S : List (List Ty)} {w w' : World} (h : GoodS S) (hk : KB F0 w w') : OkEnd S w (.returned (.bool true)) w' := ⟨true, rfl, ⟨fun _ => h, fun _ => rfl⟩, hk⟩
set_option maxRecDepth 100000 in
set_option maxHeartbeats 32000000 in
theorem rtStructs_any (S : List (List Ty)) (hn : S.length ≤ 1000000) (hl : ∀ i, (fds S i).length ≤ 1000000) (a : Option Addr) (c : Nat) (w : World) (h : StsAt 49 w a S) :
    Calls Tryz.prog 61 #[.slice a S.length c] w (OkEnd S w) := by
  obtain ⟨w0, rfl⟩ : ∃ w0, w0 = w := ⟨_, rfl⟩
  obtain ⟨n, hnn⟩ : ∃ n, n = S.length := ⟨_, rfl⟩
  rw [← hnn]
  by_cases h32 : S.length ≤ 32
  case neg =>
    have hng : Hid (¬ GoodS S) := Lib.hid (fun hg => h32 hg.len)
    have g1 : (32 : Int) < (n : Int) := by omega
    have g2 : decide ((32 : Int) < (n : Int)) = true := decide_eq_true g1
    have g3 : decide (32 < n) = true := decide_eq_true (by omega)
    clear h hl hnn h32 hn
    go_enter Tryz.func61, Tryz.ntmps61
    go_wp2_with fail
    go_ret
    exact okEnd_no hng.out (KB.refl _ _)
  case pos =>
    have g1 : ¬ ((32 : Int) < (n : Int)) := by omega
    have g2 : decide ((32 : Int) < (n : Int)) = false := decide_eq_false g1
    have g3 : decide (32 < n) = false := decide_eq_false (by omega)
    have hn32 : n ≤ 32 := by omega
    have HH := Lib.hid (And.intro h (And.intro hnn (And.intro hl h32)))
    clear h hl hnn h32 hn
    go_enter Tryz.func61, Tryz.ntmps61
    go_wp2_with fail
    clear g1 g2 g3
    go_loopg [3] n (fun g iv wr => ∃ i, i ≤ n ∧ g = n - i ∧ iv = .int .i64 (i : Nat) ∧ Hid (KB F0 w0 wr ∧ ∀ j, j < i → sB1 S j = false))
    case atStart => exact ⟨0, by omega, by omega, rfl, Lib.hid ⟨KB.refl _ _, fun j hj => by omega⟩⟩
    case round =>
      obtain ⟨i, hi, rfl, rfl, hst⟩ := hrel
      by_cases hlt : i < n
      · have hiI : (i : Int) < (n : Int) := by omega
        have dI : decide ((i : Int) < (n : Int)) = true := decide_eq_true hiI
        have hiS : i < S.length := by rw [← HH.out.2.1]; exact hlt
        obtain ⟨sb, so, snm, sfa, sfc, rfl, -, hsl0, hsc, hfd⟩ := HH.out.1 i hiS
        have hsl := hst.out.1.cell (p := ⟨sb, so + i * 2 + 1, none⟩) (fun x => x) hsl0
        obtain ⟨F, hF⟩ : ∃ F, F = fds S i := ⟨_, rfl⟩
        rw [show S.getD i [] = F from hF.symm] at hsl hsc hfd hsl0
        obtain ⟨L, hL⟩ : ∃ L, L = F.length := ⟨_, rfl⟩
        rw [← hL] at hsl hsc hsl0
        have hLm : L ≤ 1000000 := by rw [hL, hF]; exact HH.out.2.2.1 i
        have HU := Lib.hid (And.intro hF (And.intro hL (And.intro hsc (And.intro hfd (And.intro hiS hsl0)))))
        clear hF hL hsc hfd hiS hsl0
        by_cases hL1 : L < 1
        · have d1 : decide ((L : Int) < 1) = true := decide_eq_true (by omega)
          obtain rfl : L = 0 := by omega
          have HG : Hid (¬ GoodS S) := Lib.hid (not_good1 HU.out.2.2.2.2.1 (by unfold sB1; rw [← HU.out.1, ← HU.out.2.1]; rfl))
          go_wp2_with fail
          go_ret
          exact okEnd_no HG.out hst.out.1
        · have d1 : decide ((L : Int) < 1) = false := decide_eq_false (by omega)
          have d1n : decide (L < 1) = false := decide_eq_false hL1
          have e1 : ¬ ((L : Int) < 1) := by omega
          by_cases hL8 : 8 < L
          · have d8 : decide ((8 : Int) < (L : Int)) = true := decide_eq_true (by omega)
            have d8n : decide (8 < L) = true := decide_eq_true hL8
            have e8 : (8 : Int) < (L : Int) := by omega
            have HG : Hid (¬ GoodS S) := Lib.hid (not_good1 HU.out.2.2.2.2.1 (by unfold sB1; rw [← HU.out.1, ← HU.out.2.1, d1n, d8n]; rfl))
            go_wp2_with fail
            go_ret
            exact okEnd_no HG.out hst.out.1
          · have d8 : decide ((8 : Int) < (L : Int)) = false := decide_eq_false (by omega)
            have d8n : decide (8 < L) = false := decide_eq_false hL8
            have e8 : ¬ ((8 : Int) < (L : Int)) := by omega
            go_wp2_with fail
            clear hsl
            go_loopg [4] L (fun g qv wr => ∃ q, q ≤ L ∧ g = L - q ∧ qv = .int .i64 (q : Nat) ∧ Hid (KB F0 w0 wr ∧ ∀ j, j < q → badF S.length (F.getD j ty0) = false))
            case atStart => exact ⟨0, by omega, by omega, rfl, Lib.hid ⟨hst.out.1, fun j hj => by omega⟩⟩
            case round =>
              obtain ⟨q, hq, rfl, rfl, hsq⟩ := hrel
              have hsl := hsq.out.1.cell (p := ⟨sb, so + i * 2 + 1, none⟩) (fun x => x) HU.out.2.2.2.2.2
              by_cases hqt : q < L
              · have hqI : (q : Int) < (L : Int) := by omega
                have dq : decide ((q : Int) < (L : Int)) = true := decide_eq_true hqI
                obtain ⟨fb, fo, fnm, fa', fc', rfl, hnm, hty, hta⟩ := HU.out.2.2.2.1 q (by rw [← HU.out.2.1]; exact hqt)
                obtain ⟨t0, t1, t2, t3, t4⟩ := hty.kbF hsq.out.1
                have CL := rtMay_any S.length false 48 (by omega) (F.getD q ty0) fa' fc' wr (hta.kbF hsq.out.1)
                unfold tyV at CL
                rw [← HH.out.2.1] at CL
                obtain ⟨z, hz⟩ : ∃ z, z = mayB n false 48 (F.getD q ty0) := ⟨_, rfl⟩
                rw [← hz] at CL
                have HZ : Hid (badF S.length (F.getD q ty0) = !z) := Lib.hid (by rw [hz]; unfold badF; rw [HH.out.2.1])
                have CL2 := Lib.hid CL
                generalize F.getD q ty0 = f at t0 t1 t2 t3 t4 CL2
                clear hnm hty hta CL hz
                obtain ⟨fk, hfk⟩ : ∃ x, x = f.k := ⟨_, rfl⟩
                rw [← hfk] at t0 CL2
                obtain ⟨fm, hfm⟩ : ∃ x, x = f.m := ⟨_, rfl⟩
                rw [← hfm] at t1 CL2
                obtain ⟨fr, hfr⟩ : ∃ x, x = f.r := ⟨_, rfl⟩
                rw [← hfr] at t2 CL2
                obtain ⟨fs, hfs⟩ : ∃ x, x = f.s := ⟨_, rfl⟩
                rw [← hfs] at t3 CL2
                obtain ⟨N, hN⟩ : ∃ x, x = f.of.length := ⟨_, rfl⟩
                rw [← hN] at t4 CL2
                clear hfk hfm hfr hfs hN
                go_wp2_with fail
                refine CL2.out.mono ?_
                rintro e w1 ⟨rfl, k1⟩
                have K1 := Lib.hid (hsq.out.1.trans k1)
                clear k1 t0 t1 t2 t3 t4 hsl CL2
                cases z with
                | true =>
                  have HN : Hid (KB F0 w0 w1 ∧ ∀ j, j < q + 1 → badF S.length (F.getD j ty0) = false) := Lib.hid ⟨K1.out, fun j hj => by
                    rcases Nat.lt_or_eq_of_le (Nat.lt_succ_iff.1 hj) with h1 | rfl
                    · exact hsq.out.2 j h1
                    · rw [HZ.out]; rfl⟩
                  go_wp2_with fail
                  go_roundg (L - (q + 1))
                  case measure => omega
                  case rel => exact ⟨q + 1, by omega, rfl, by go_num, HN⟩
                | false =>
                  have HG : Hid (¬ GoodS S) := Lib.hid (not_good1 HU.out.2.2.2.2.1 (by
                    unfold sB1
                    rw [← HU.out.1, any_getD (d := ty0) (by rw [← HU.out.2.1]; exact hqt) (by rw [HZ.out]; rfl)]
                    simp))
                  go_wp2_with fail
                  go_ret
                  exact okEnd_no HG.out K1.out
              · obtain rfl : q = L := by omega
                have dq : decide ((q : Int) < (q : Int)) = false := decide_eq_false (by omega)
                have HN : Hid (KB F0 w0 wr ∧ ∀ j, j < i + 1 → sB1 S j = false) := Lib.hid ⟨hsq.out.1, fun j hj => by
                  rcases Nat.lt_or_eq_of_le (Nat.lt_succ_iff.1 hj) with h1 | rfl
                  · exact hst.out.2 j h1
                  · refine sB1_of ?_ ?_ ?_
                    · rw [← HU.out.1, ← HU.out.2.1]; exact hL1
                    · rw [← HU.out.1, ← HU.out.2.1]; exact hL8
                    · intro p hp
                      rw [← HU.out.1, ← HU.out.2.1] at hp
                      rw [← HU.out.1]; exact hsq.out.2 p hp⟩
                clear hsq hqt
                go_wp2_with fail
                go_roundg (n - (i + 1))
                case measure => omega
                case rel => exact ⟨i + 1, by omega, rfl, by go_num, HN⟩
      · obtain rfl : i = n := by omega
        have dI : decide ((i : Int) < (i : Int)) = false := decide_eq_false (by omega)
        have H1 := Lib.hid (show ∀ j, j < S.length → sB1 S j = false from by rw [← HH.out.2.1]; exact hst.out.2)
        have K0 := Lib.hid hst.out.1
        clear hst hlt
        go_wp2_with fail
        go_loopg [5] i (fun g kv wr => ∃ k, k ≤ i ∧ g = i - k ∧ kv = .int .i64 (k : Nat) ∧ Hid (KB F0 w0 wr ∧ ∀ j, j < k → endB S j = false))
        case atStart => exact ⟨0, by omega, by omega, rfl, Lib.hid ⟨K0.out, fun j hj => by omega⟩⟩
        case round =>
          obtain ⟨k, hk, rfl, rfl, hst⟩ := hrel
          by_cases hlt : k < i
          · have hkI : (k : Int) < (i : Int) := by omega
            have dk : decide ((k : Int) < (i : Int)) = true := decide_eq_true hkI
            have CL := rtEndless_any S (inR_of H1.out) HH.out.2.2.2 (len8_of H1.out) k 49 (by rw [← HH.out.2.1]; exact hlt) a c wr (HH.out.1.kbF hst.out.1)
            rw [← HH.out.2.1] at CL
            obtain ⟨z, hz⟩ : ∃ z, z = endB S k := ⟨_, rfl⟩
            rw [← hz] at CL
            have HZ := Lib.hid hz
            have CL2 := Lib.hid CL
            clear CL hz
            go_wp2_with fail
            refine CL2.out.mono ?_
            rintro e w1 ⟨rfl, k1⟩
            have K1 := Lib.hid (hst.out.1.trans k1)
            clear k1
            cases z with
            | true =>
              have HG : Hid (¬ GoodS S) := Lib.hid (fun hg => by have := hg.b2 k (by rw [← HH.out.2.1]; exact hlt); rw [← HZ.out] at this; cases this)
              go_wp2_with fail
              go_ret
              exact okEnd_no HG.out K1.out
            | false =>
              have HN : Hid (KB F0 w0 w1 ∧ ∀ j, j < k + 1 → endB S j = false) := Lib.hid ⟨K1.out, fun j hj => by
                rcases Nat.lt_or_eq_of_le (Nat.lt_succ_iff.1 hj) with h1 | rfl
                · exact hst.out.2 j h1
                · exact HZ.out.symm⟩
              go_wp2_with fail
              go_roundg (i - (k + 1))
              case measure => omega
              case rel => exact ⟨k + 1, by omega, rfl, by go_num, HN⟩
          · obtain rfl : k = i := by omega
            have dk : decide ((k : Int) < (k : Int)) = false := decide_eq_false (by omega)
            have H2 := Lib.hid (show ∀ j, j < S.length → endB S j = false from by rw [← HH.out.2.1]; exact hst.out.2)
            have K0 := Lib.hid hst.out.1
            clear hst hlt
            go_wp2_with fail
            go_loopg [6] k (fun g mv wr => ∃ m, m ≤ k ∧ g = k - m ∧ mv = .int .i64 (m : Nat) ∧ Hid (KB F0 w0 wr ∧ ∀ j, j < m → sB3 S j = false))
            case atStart => exact ⟨0, by omega, by omega, rfl, Lib.hid ⟨K0.out, fun j hj => by omega⟩⟩
            case round =>
              obtain ⟨m, hm, rfl, rfl, hst⟩ := hrel
              by_cases hlt : m < k
              · have hmI : (m : Int) < (k : Int) := by omega
                have dm : decide ((m : Int) < (k : Int)) = true := decide_eq_true hmI
                have hmS : m < S.length := by rw [← HH.out.2.1]; exact hlt
                have CL := rtWords_any S (inR_of H1.out) HH.out.2.2.2 (len8_of H1.out) 49 a c 34 (by omega) (sTy m) none 0 wr ((finD_all (inR_of H1.out) H2.out (sTy m)).le (by have := HH.out.2.2.2; omega)) (fun _ => ⟨by show (0 : Int) ≤ (m : Int); omega, by show (m : Int) < _; omega⟩) (HH.out.1.kbF hst.out.1)
                unfold tyV at CL
                have HB : Hid (∀ x, WR (wF S 34 (sTy m)) 34 x → sB3 S m = decide (16 < x)) := Lib.hid (fun x hx => by
                  unfold sB3
                  rw [Bool.eq_iff_iff]
                  simp only [decide_eq_true_eq]
                  obtain ⟨h1, h2, -⟩ := hx
                  by_cases h : wF S 34 (sTy m) ≤ 16
                  · rw [h1 h]
                  · exact ⟨fun _ => h2 (by omega), fun _ => by omega⟩)
                rw [← HH.out.2.1] at CL
                generalize wF S 34 (sTy m) = y at CL HB
                unfold sTy at CL
                simp only [Ty.k, Ty.m, Ty.r, Ty.s, Ty.of, List.length_nil] at CL
                have CL2 := Lib.hid CL
                clear CL hmS
                go_wp2_with fail
                refine CL2.out.mono ?_
                rintro e w1 ⟨x, rfl, hx, k1⟩
                have K1 := Lib.hid (hst.out.1.trans k1)
                have HX := Lib.hid (HB.out x hx)
                clear k1 hx
                by_cases h16 : 16 < x
                · have d1 : decide ((16 : Int) < (x : Int)) = true := decide_eq_true (by omega)
                  have d2 : decide (16 < x) = true := decide_eq_true h16
                  have d3 : (16 : Int) < (x : Int) := by omega
                  have HG : Hid (¬ GoodS S) := Lib.hid (fun hg => by have := hg.b3 m (by rw [← HH.out.2.1]; exact hlt); rw [HX.out, d2] at this; cases this)
                  go_wp2_with fail
                  go_ret
                  exact okEnd_no HG.out K1.out
                · have d1 : decide ((16 : Int) < (x : Int)) = false := decide_eq_false (by omega)
                  have d2 : decide (16 < x) = false := decide_eq_false h16
                  have d3 : ¬ ((16 : Int) < (x : Int)) := by omega
                  have HN : Hid (KB F0 w0 w1 ∧ ∀ j, j < m + 1 → sB3 S j = false) := Lib.hid ⟨K1.out, fun j hj => by
                    rcases Nat.lt_or_eq_of_le (Nat.lt_succ_iff.1 hj) with h1 | rfl
                    · exact hst.out.2 j h1
                    · rw [HX.out]; exact d2⟩
                  go_wp2_with fail
                  go_roundg (k - (m + 1))
                  case measure => omega
                  case rel => exact ⟨m + 1, by omega, rfl, by go_num, HN⟩
              · obtain rfl : m = k := by omega
                have dm : decide ((m : Int) < (m : Int)) = false := decide_eq_false (by omega)
                have HG : Hid (GoodS S) := Lib.hid ⟨HH.out.2.2.2, H1.out, H2.out, by rw [← HH.out.2.1]; exact hst.out.2⟩
                have K9 := Lib.hid hst.out.1
                clear hst
                go_wp2_with fail
                go_ret
                exact okEnd_yes HG.out K9.out
end Go.Proofs.YtpigppghcghpbaaGreatDoor

/- LexPlaces, walked. -/
import Derived.Test.YtcbifoimfhfccaaDoorLexZe
namespace Go.Proofs.YtcbifoimfhfccaaDoor
open Go.RowKit

theorem sumL_lines (s : ByteArray) : sumL (linesS s) = s.size + 1 := by
  obtain ⟨h1, h2, h3, h4, h5, h6, h7⟩ := linF_inv s s.size (Nat.le_refl _)
  unfold linesS
  rw [sumL_app, h6]
  have z2 := size_ext s (a := (linF s s.size).2) (n := s.size - (linF s s.size).2) (by omega)
  rw [show (linF s s.size).2 + (s.size - (linF s s.size).2) = s.size by omega] at z2
  omega
theorem len_sumL (L : List ByteArray) : L.length ≤ sumL L := by
  induction L with
  | nil => exact Nat.le_refl _
  | cons x L ih => unfold sumL; rw [List.length_cons]; omega
set_option maxRecDepth 100000 in
set_option maxHeartbeats 16000000 in
theorem places_any (s : ByteArray) (at_ : Int) (w : World) (hT : Tab w) : Calls Tryd.prog 7 #[.string s, .int .i64 at_] w fun e w' => e = .returned (.bool true) ∧ KB F0 w w' := by
  obtain ⟨w0, rfl⟩ : ∃ w0, w0 = w := ⟨_, rfl⟩
  have AW := Lib.hid (fun (W : World) (hk : KB F0 w0 W) => awake_any W (hT.kb hk))
  by_cases hbig : 65536 < s.size
  · have d1 : decide ((65536 : Int) < (s.size : Int)) = true := decide_eq_true (by omega)
    clear hbig hT
    go_enter Tryd.func7, Tryd.ntmps7
    go_wp2_with fail
    refine (AW.out _ (KB.refl _ _)).mono ?_
    rintro e w1 ⟨rfl, k1⟩
    have K := Lib.hid k1
    clear k1
    go_wp2_with fail
    go_ret
    exact ⟨rfl, K.out⟩
  have d1 : decide ((65536 : Int) < (s.size : Int)) = false := decide_eq_false (by omega)
  have hs : s.size ≤ 65536 := by omega
  obtain ⟨m, hm⟩ := hT.len
  have LS := Lib.hid (lines_any s hs w0 m hm)
  have LN := Lib.hid (fun (W : World) => line_any s at_ (by omega) W)
  have JN := Lib.hid (fun (W : World) (g : Nat) (h : SL W g (linesS s)) => joined_any (linesS s) g W h (by rw [sumL_lines]; omega) (by have := len_sumL (linesS s); rw [sumL_lines] at this; omega))
  rw [joined_lines] at JN
  have HSum := Lib.hid (And.intro (sumL_lines s) (len_sumL (linesS s)))
  have PL := Lib.hid (fun (k : Nat) (hk : k ≤ s.size) => And.intro (place_line s hk) (And.intro (lnF_le s k) (colF_le s k)))
  have HO : Hid (lineS s at_ = if at_ < 0 ∨ (s.size : Int) < at_ then (0, 0, 2) else (lnF s at_.toNat, colF s at_.toNat, 0)) := Lib.hid (by unfold lineS; rw [if_neg hbig])
  generalize linesS s = L at LS JN HSum PL
  obtain ⟨N, hN⟩ : ∃ N, N = L.length := ⟨_, rfl⟩
  rw [← hN] at LS JN
  have HN := Lib.hid hN
  have HSZ := Lib.hid hs
  clear hbig hT hm hN hs
  go_enter Tryd.func7, Tryd.ntmps7
  go_wp2_with fail
  refine LS.out.mono ?_
  rintro e w1 ⟨g, rfl, hsl, k1⟩
  have K1 := Lib.hid (And.intro hsl k1)
  clear k1 hsl LS
  go_wp2_with fail
  refine (JN.out _ g K1.out.1).mono ?_
  rintro e w2 ⟨rfl, k2⟩
  have K2 := Lib.hid (And.intro (show SL w2 g L from k2.heap (fun x => x) K1.out.1) (K1.out.2.trans k2))
  clear k2 K1 JN
  by_cases hat : at_ < 0 ∨ (s.size : Int) < at_
  · rw [if_pos hat] at HO
    rw [HO.out] at LN
    have tail : ∀ (r : Bool), True := fun _ => trivial
    clear tail
    by_cases ha : at_ < 0
    · have d2 : decide (at_ < 0) = true := decide_eq_true ha
      clear hat HO
      go_wp2_with fail
      refine (LN.out _).mono ?_
      rintro e w3 ⟨rfl, rfl⟩
      go_wp2_with fail
      refine (AW.out _ K2.out.2).mono ?_
      rintro e w4 ⟨rfl, k4⟩
      have K := Lib.hid (K2.out.2.trans k4)
      clear k4
      go_wp2_with fail
      go_ret
      exact ⟨rfl, K.out⟩
    · have d2 : decide (at_ < 0) = false := decide_eq_false ha
      have d3 : decide ((s.size : Int) < at_) = true := decide_eq_true (by omega)
      clear hat HO
      go_wp2_with fail
      refine (LN.out _).mono ?_
      rintro e w3 ⟨rfl, rfl⟩
      go_wp2_with fail
      refine (AW.out _ K2.out.2).mono ?_
      rintro e w4 ⟨rfl, k4⟩
      have K := Lib.hid (K2.out.2.trans k4)
      clear k4
      go_wp2_with fail
      go_ret
      exact ⟨rfl, K.out⟩
  · obtain ⟨j, rfl⟩ : ∃ j : Nat, at_ = (j : Int) := ⟨at_.toNat, by omega⟩
    have hj : j ≤ s.size := by omega
    rw [if_neg hat, Int.toNat_natCast] at HO
    rw [HO.out] at LN
    have d2 : decide ((j : Int) < 0) = false := decide_eq_false (by omega)
    have d3 : decide ((s.size : Int) < (j : Int)) = false := decide_eq_false (by omega)
    have d3' : ¬ (s.size < j) := by omega
    obtain ⟨⟨p1, p2, p3⟩, q1, q2⟩ := PL.out j hj
    have hsz := HSZ.out
    generalize lnF s j = n at LN p1 p2 p3 q1
    generalize colF s j = c at LN p2 p3 q2
    obtain ⟨n1, rfl⟩ : ∃ n1, n = n1 + 1 := ⟨n - 1, by omega⟩
    obtain ⟨c1, rfl⟩ : ∃ c1, c = c1 + 1 := ⟨c - 1, by omega⟩
    rw [Nat.add_sub_cancel] at p2 p3
    rw [Nat.add_sub_cancel] at p3
    have hn1 : n1 < L.length := by omega
    have x1 := K2.out.1.cell hn1
    have hxs : (L.getD n1 ByteArray.empty).size + 1 + sumL (L.take n1) ≤ s.size + 1 := by
      have := sumL_take_succ hn1
      have := sumL_take_le L (n1 + 1)
      have := HSum.out.1
      omega
    generalize L.getD n1 ByteArray.empty = x at x1 p2 hxs
    simp only at LN
    obtain ⟨n, hn⟩ : ∃ n, n = n1 + 1 := ⟨_, rfl⟩
    obtain ⟨c, hc⟩ : ∃ c, c = c1 + 1 := ⟨_, rfl⟩
    rw [← hn, ← hc] at LN
    have e1 : decide ((n : Int) < 1) = false := decide_eq_false (by omega)
    have e2 : decide ((N : Int) < (n : Int)) = false := decide_eq_false (by have := HN.out; omega)
    have e2' : ¬ (N < n) := by have := HN.out; omega
    have e3 : decide ((c : Int) < 1) = false := decide_eq_false (by omega)
    obtain ⟨xs, hx⟩ : ∃ xs, xs = x.size + 1 := ⟨_, rfl⟩
    have w1 : IntKind.i64.wrap ((n : Int) - 1) = (n1 : Int) := by rw [w64 (by omega) (by omega)]; omega
    have w2' : IntKind.i64.wrap ((x.size : Int) + 1) = (xs : Int) := by rw [w64 (by omega) (by omega)]; omega
    have w3 : IntKind.i64.wrap ((c : Int) - 1) = (c1 : Int) := by rw [w64 (by omega) (by omega)]; omega
    have e4 : decide ((xs : Int) < (c : Int)) = false := decide_eq_false (by omega)
    have e4' : ¬ (xs < c) := by omega
    have e5 : (n1 : Int) < (N : Int) := by have := HN.out; omega
    have e6 : ¬ ((n : Int) < 1) := by omega
    have e7 : ¬ ((c : Int) < 1) := by omega
    have e8 : ¬ (n < 1) := by omega
    have e9 : ¬ (c < 1) := by omega
    have HP : Hid (c1 + sumL (L.take n1) = j ∧ n1 < L.length ∧ s.size ≤ 65536 ∧ j ≤ s.size ∧ c1 ≤ 65536) := Lib.hid ⟨p3, hn1, hsz, hj, by omega⟩
    have i1 : n1 < N := by have := HN.out; omega
    have i3 : n1 ≤ 70000 := by have := HN.out; have := HSum.out; omega
    clear hat HO p1 p2 p3 q1 q2 hn1 hxs hn hc hj hsz PL hx
    go_wp2_with fail
    refine (LN.out _).mono ?_
    rintro e w3 ⟨rfl, rfl⟩
    go_wp2_with fail
    clear x1 w2' e4 e4' e5
    go_loopw [9, 10] (fun kv iv wr => ∃ i : Nat, i ≤ n1 ∧ kv = .int .i64 ((c1 + sumL (L.take i) : Nat) : Int) ∧ iv = .int .i64 (i : Nat) ∧ KB F0 w2 wr) (fun _ iv _ => n1 - (intOf iv).toNat)
    case atStart => exact ⟨0, by omega, by first | rfl | (simp [sumL]), rfl, KB.refl _ _⟩
    case round =>
      obtain ⟨i, hi, rfl, rfl, hkb⟩ := hrel
      by_cases hlt : i < n1
      · have f1 : decide ((i : Int) < (n1 : Int)) = true := decide_eq_true (by omega)
        have hiL : i < L.length := by have := HP.out.2.1; omega
        have y1 := hkb.cell (p := ⟨g, i, none⟩) (fun x => x) (K2.out.1.cell hiL)
        have hs1 := sumL_take_succ hiL
        have hs2 := sumL_take_le L (i + 1)
        have hs3 := HSum.out.1
        have hp := HP.out
        generalize L.getD i ByteArray.empty = y at y1 hs1
        obtain ⟨ys, hy⟩ : ∃ ys, ys = y.size + 1 := ⟨_, rfl⟩
        obtain ⟨v1, hv1⟩ : ∃ v1, v1 = c1 + sumL (L.take i) := ⟨_, rfl⟩
        rw [← hv1]
        have g1 : IntKind.i64.wrap ((y.size : Int) + 1) = (ys : Int) := by rw [w64 (by omega) (by omega)]; omega
        have g2 : IntKind.i64.wrap ((v1 : Int) + (ys : Int)) = ((v1 + ys : Nat) : Int) := by rw [w64 (by omega) (by omega)]; omega
        have HV : Hid (v1 + ys = c1 + sumL (L.take (i + 1))) := Lib.hid (by omega)
        have i2 : (i : Int) < (N : Int) := by have := HN.out; omega
        clear hs1 hs2 hs3 hp hy hv1 hiL
        go_wp2_with fail
        refine ⟨⟨i + 1, by omega, by rw [← HV.out]; go_num, by go_num, hkb⟩, by simp [intOf]; omega⟩
      · obtain rfl : i = n1 := by omega
        have f1 : decide ((i : Int) < (i : Int)) = false := decide_eq_false (by omega)
        rw [HP.out.1]
        go_wp2_with fail
        refine (AW.out _ (K2.out.2.trans hkb)).mono ?_
        rintro e w4 ⟨rfl, k4⟩
        have K := Lib.hid ((K2.out.2.trans hkb).trans k4)
        clear k4
        go_wp2_with fail
        go_ret
        exact ⟨rfl, K.out⟩
end Go.Proofs.YtcbifoimfhfccaaDoor

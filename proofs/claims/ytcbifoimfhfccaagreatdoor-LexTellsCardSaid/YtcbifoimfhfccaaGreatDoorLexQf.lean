/- slices.ContainsFunc with join's function: is there a token that may not be? -/
import Derived.Test.YtcbifoimfhfccaaGreatDoorLexQe
namespace Go.Proofs.YtcbifoimfhfccaaGreatDoor
open Go.RowKit

theorem all_getD {ts : List Tk} {p : Tk → Bool} : ts.all p = true ↔ ∀ i, i < ts.length → p (ts.getD i tk0) = true := by
  rw [List.all_eq_true]
  constructor
  · intro h i hi
    rw [List.getD_eq_getElem?_getD, List.getElem?_eq_getElem hi]
    exact h _ (List.getElem_mem hi)
  · intro h x hx
    obtain ⟨i, hi, rfl⟩ := List.getElem_of_mem hx
    have := h i hi
    rw [List.getD_eq_getElem?_getD, List.getElem?_eq_getElem hi] at this
    exact this
theorem all_fail {ts : List Tk} {p : Tk → Bool} {i : Nat} (hi : i < ts.length) (h : p (ts.getD i tk0) = false) : ts.all p = false := by
  cases hc : ts.all p
  · rfl
  · rw [all_getD.1 hc i hi] at h; cases h
set_option maxRecDepth 100000 in
set_option maxHeartbeats 8000000 in
theorem indexFunc_any (ts : List Tk) (hl : ts.length < 100000000000) (h64 : ∀ k, k < ts.length → Num64 (ts.getD k tk0)) (a : Option Addr) (c : Nat) (w : World) (hT : Tab w) (h1 : ToksAt w a ts) :
    Calls Tryz.prog 73 #[.slice a ts.length c, .func (.func 41) #[] #[]] w fun e w' => ∃ r : Int, e = .returned (.int .i64 r) ∧ decide (0 ≤ r) = !ts.all mayS ∧ KB F0 w w' := by
  obtain ⟨w0, rfl⟩ : ∃ w0, w0 = w := ⟨_, rfl⟩
  obtain ⟨b, hb⟩ : ∃ b, b = ts.all mayS := ⟨_, rfl⟩
  rw [← hb]
  obtain ⟨N, hN⟩ : ∃ N, N = ts.length := ⟨_, rfl⟩
  have Hstep : Hid ((∀ i, i < N → mayS (ts.getD i tk0) = true) → b = true) := Lib.hid (fun h => by rw [hb]; exact all_getD.2 (by rw [← hN]; exact h))
  have Hfail : Hid (∀ i, i < N → mayS (ts.getD i tk0) = false → b = false) := Lib.hid (fun i hi h => by rw [hb]; exact all_fail (by rw [← hN]; exact hi) h)
  have MY := Lib.hid (fun (k : Nat) (hk : k < ts.length) (W : World) (hkb : KB F0 w0 W) => join0_any (ts.getD k tk0) (h64 k hk) W (hT.kb hkb))
  rw [← hN] at hl MY ⊢
  have HTS := Lib.hid (And.intro hN h1)
  clear hN hb h64 hT h1
  go_enter Tryz.func73, Tryz.ntmps73
  go_wp2_with fail
  go_loopw [8] (fun kv wr => ∃ k : Nat, k ≤ N ∧ kv = .int .i64 k ∧ KB F0 w0 wr ∧ Hid (∀ i, i < k → mayS (ts.getD i tk0) = true)) (fun kv _ => N - (intOf kv).toNat)
  case atStart => exact ⟨0, by omega, rfl, KB.refl _ _, Lib.hid (fun i hi => by omega)⟩
  case round =>
    obtain ⟨k, hk, rfl, hkb, hall⟩ := hrel
    by_cases hlt : k < N
    · obtain ⟨b1, o1, rfl, hx0⟩ := HTS.out.2 k (by rw [← HTS.out.1]; exact hlt)
      have hx := hx0.kbF hkb
      have Hf := Lib.hid (Hfail.out k hlt)
      have Hn : Hid (mayS (ts.getD k tk0) = true → ∀ i, i < k + 1 → mayS (ts.getD i tk0) = true) := Lib.hid (fun h i hi => by
        rcases Nat.lt_or_eq_of_le (Nat.lt_succ_iff.1 hi) with h' | rfl
        · exact hall.out i h'
        · exact h)
      have MK := Lib.hid (MY.out k hlt)
      generalize ts.getD k tk0 = x at hx Hf Hn MK
      have c0 := hx.k
      have c1 := hx.at_
      have c2 := hx.n
      have c3 := hx.s
      unfold tkC at MK
      generalize mayS x = q at Hf Hn MK
      have HK := Lib.hid hkb
      clear hx0 hx hkb hall
      go_wp2_with fail
      refine (MK.out _ HK.out).mono ?_
      rintro e w2 ⟨rfl, hk2⟩
      have HK2 := Lib.hid (HK.out.trans hk2)
      clear hk2 c0 c1 c2 c3 MK
      cases q
      · have hr2 : Hid (b = false) := Lib.hid (Hf.out rfl)
        go_wp2_with fail
        go_ret
        exact ⟨_, rfl, by rw [hr2.out]; exact decide_eq_true (by omega), HK2.out⟩
      · have hall2 := Lib.hid (Hn.out rfl)
        go_wp2_with fail
        go_roundw
        case rel => exact ⟨k + 1, by omega, by go_num, HK2.out, hall2⟩
        case measure => simp [intOf]; omega
    · obtain rfl : k = N := by omega
      have hr2 : Hid (b = true) := Lib.hid (Hstep.out hall.out)
      have HK := Lib.hid hkb
      clear hall hkb
      go_wp2_with fail
      go_ret
      exact ⟨_, rfl, by rw [hr2.out]; decide, HK.out⟩
set_option maxRecDepth 100000 in
set_option maxHeartbeats 8000000 in
theorem containsFunc_any (ts : List Tk) (hl : ts.length < 100000000000) (h64 : ∀ k, k < ts.length → Num64 (ts.getD k tk0)) (a : Option Addr) (c : Nat) (w : World) (hT : Tab w) (h1 : ToksAt w a ts) :
    Calls Tryz.prog 40 #[.slice a ts.length c, .func (.func 41) #[] #[]] w fun e w' => e = .returned (.bool (!ts.all mayS)) ∧ KB F0 w w' := by
  have IX := Lib.hid (indexFunc_any ts hl h64 a c w hT h1)
  generalize ts.all mayS = q at IX ⊢
  generalize ts.length = N at IX ⊢
  clear hl h64 hT h1
  go_enter Tryz.func40, Tryz.ntmps40
  go_wp2_with fail
  refine IX.out.mono ?_
  rintro e w2 ⟨r, rfl, hd, hk2⟩
  have HK2 := Lib.hid hk2
  clear hk2
  go_wp2_with fail
  go_ret
  exact ⟨ret_eq (by first | rfl | rw [← hd] | rw [hd]), HK2.out⟩
end Go.Proofs.YtcbifoimfhfccaaGreatDoor

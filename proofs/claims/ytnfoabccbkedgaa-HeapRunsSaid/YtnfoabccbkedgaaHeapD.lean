/- The walks of Heap.Take (no block), heap.Class, heap.block. -/
import Derived.Test.YtnfoabccbkedgaaHeapC
namespace Go.Proofs.Ytnfoabccbkedgaa
open Go.RowKit

set_option maxHeartbeats 400000 in
theorem take_full (b : Nat) (s : HS) (c : Nat) (hc : c < 5) (w : World) (h : IH w b s) (hf : ffree (s.T c) = none) :
    Calls Try.prog 9 #[.pointer (some ⟨b,0,none⟩), .int .i64 c] w fun e w' => e = .returned (.tuple #[.int .i64 0, .int .i64 260]) ∧ w = w' := by
  obtain ⟨f, hf0⟩ : ∃ f, f = s.T c := ⟨_, rfl⟩
  rw [← hf0] at hf
  have hr : freeRes f = .tuple #[.int .i64 0, .bool false] := by unfold freeRes; rw [hf]
  have c0 := h.c0
  have cT : w.cell? ⟨b, 1 + 2 * c, none⟩ = some (.int .u16 (mk f)) := by
    rw [h.cell, hf0]
    obtain rfl | rfl | rfl | rfl | rfl : c = 0 ∨ c = 1 ∨ c = 2 ∨ c = 3 ∨ c = 4 := by omega
    all_goals rfl
  have hr' := Lib.hid hr
  clear hr hf hf0 h
  obtain rfl | rfl | rfl | rfl | rfl : c = 0 ∨ c = 1 ∨ c = 2 ∨ c = 3 ∨ c = 4 := by omega
  all_goals
    simp only [Nat.reduceMul, Nat.reduceAdd] at cT
    go_enter Try.func9, Try.ntmps9
    go_wp2_with fail
    refine (is_any _ true _ (by assumption)).mono ?_
    rintro e w' ⟨rfl, rfl⟩
    go_wp2_with fail
    refine (free_any _ _ f _ (by assumption)).mono ?_
    rintro e w' ⟨rfl, rfl⟩
    rw [hr'.out]
    go_wp2
    go_ret2
    exact ⟨rfl, rfl⟩

set_option maxHeartbeats 400000 in
theorem take_arg (b : Nat) (c : Int) (hc : c < 0 ∨ 5 ≤ c) (w : World) (h : w.cell? ⟨b, 0, none⟩ = some (.bool true)) :
    Calls Try.prog 9 #[.pointer (some ⟨b,0,none⟩), .int .i64 c] w fun e w' => e = .returned (.tuple #[.int .i64 0, .int .i64 2]) ∧ w = w' := by
  rcases hc with hc | hc
  · have h1 : decide (c < 0) = true := by simpa using hc
    go_enter Try.func9, Try.ntmps9
    go_wp2_with fail
    refine (is_any _ true _ (by assumption)).mono ?_
    rintro e w' ⟨rfl, rfl⟩
    go_wp2
    go_ret2
    exact ⟨rfl, rfl⟩
  · have h1 : decide (c < 0) = false := by simp; omega
    have h2 : decide (5 ≤ c) = true := by simpa using hc
    go_enter Try.func9, Try.ntmps9
    go_wp2_with fail
    refine (is_any _ true _ (by assumption)).mono ?_
    rintro e w' ⟨rfl, rfl⟩
    go_wp2
    go_ret2
    exact ⟨rfl, rfl⟩

/-- Heap.Take. -/
theorem take_any (b : Nat) (s : HS) (c : Int) (w : World) (h : IH w b s) :
    Calls Try.prog 9 #[.pointer (some ⟨b,0,none⟩), .int .i64 c] w fun e w' =>
      e = .returned (.tuple #[.int .i64 (s.take c).1, .int .i64 (s.take c).2.1]) ∧ IH w' b (s.take c).2.2 ∧ KB (· = b) w w' := by
  by_cases hc : c < 0 ∨ 5 ≤ c
  · have e1 : s.take c = (0, 2, s) := by unfold HS.take; rw [if_pos hc]
    rw [e1]
    refine (take_arg b c hc w h.c0).mono ?_
    rintro e w' ⟨rfl, rfl⟩
    exact ⟨rfl, h, KB.refl _ _⟩
  · obtain ⟨k, rfl⟩ := Int.eq_ofNat_of_zero_le (show 0 ≤ c by omega)
    cases hf : ffree (s.T k) with
    | none =>
      have e1 : s.take k = (0, 260, s) := by unfold HS.take; rw [if_neg hc, Int.toNat_natCast, hf]
      rw [e1]
      refine (take_full b s k (by omega) w h hf).mono ?_
      rintro e w' ⟨rfl, rfl⟩
      exact ⟨rfl, h, KB.refl _ _⟩
    | some i =>
      have e1 : s.take k = (((hb k + i * 2 ^ k : Nat) : Int), 0, s.mark k i) := by unfold HS.take; rw [if_neg hc, Int.toNat_natCast, hf]
      rw [e1]
      exact take_some b s k (by omega) i w h hf

theorem hb_vals : hb 0 = 1 ∧ hb 1 = 13 ∧ hb 2 = 37 ∧ hb 3 = 85 ∧ hb 4 = 181 ∧ hb 5 = 373 := by decide

set_option maxHeartbeats 400000 in
theorem class_no (a : Int) (ha : a < 1 ∨ 372 < a) (w : World) :
    Calls Try.prog 20 #[.int .i64 a] w fun e w' => e = .returned (.tuple #[.int .i64 0, .int .i64 0, .bool false]) ∧ w = w' := by
  rcases ha with ha | ha
  · have h1 : decide (a < 1) = true := by simpa using ha
    go_enter Try.func20, Try.ntmps20
    go_wp2
    go_ret3
    exact ⟨rfl, rfl⟩
  · have h1 : decide (a < 1) = false := by simp; omega
    have h2 : decide (372 < a) = true := by simpa using ha
    go_enter Try.func20, Try.ntmps20
    go_wp2_with fail
    refine (size_any _).mono ?_
    rintro e w' ⟨rfl, rfl⟩
    go_wp2
    go_ret3
    exact ⟨rfl, rfl⟩

set_option maxRecDepth 100000 in
set_option maxHeartbeats 1000000 in
theorem class_yes (a k : Nat) (hk : k < 5) (h1 : hb k ≤ a) (h2 : a < hb (k + 1)) (w : World) :
    Calls Try.prog 20 #[.int .i64 a] w fun e w' => e = .returned (.tuple #[.int .i64 k, .int .i64 (a - (a - hb k) % 2 ^ k : Nat), .bool true]) ∧ ∃ n, w' = w.drewN n := by
  obtain ⟨v0, v1, v2, v3, v4, v5⟩ := hb_vals
  have ha1 : 1 ≤ a := by
    obtain rfl | rfl | rfl | rfl | rfl : k = 0 ∨ k = 1 ∨ k = 2 ∨ k = 3 ∨ k = 4 := by omega
    all_goals simp only [v0, v1, v2, v3, v4, v5, Nat.reduceAdd] at h1 h2; omega
  have ha2 : a ≤ 372 := by
    obtain rfl | rfl | rfl | rfl | rfl : k = 0 ∨ k = 1 ∨ k = 2 ∨ k = 3 ∨ k = 4 := by omega
    all_goals simp only [v0, v1, v2, v3, v4, v5, Nat.reduceAdd] at h1 h2; omega
  have d1 : decide ((a : Int) < 1) = false := by simp; omega
  have d2 : decide ((372 : Int) < a) = false := by simp; omega
  have hmono : ∀ j, j ≤ 4 → (j = 4 ∨ a < hb (j + 1)) → ¬ (a < hb j) → j = k := by
    intro j hj hor hn
    obtain rfl | rfl | rfl | rfl | rfl : k = 0 ∨ k = 1 ∨ k = 2 ∨ k = 3 ∨ k = 4 := by omega
    all_goals
      obtain rfl | rfl | rfl | rfl | rfl : j = 0 ∨ j = 1 ∨ j = 2 ∨ j = 3 ∨ j = 4 := by omega
      all_goals simp only [v0, v1, v2, v3, v4, v5, Nat.reduceAdd] at h1 h2 hor hn; omega
  have hpos : ∀ j, j ≤ 4 → a < hb j → 1 ≤ j := by
    intro j hj hlt
    rcases Nat.eq_zero_or_pos j with rfl | h
    · rw [v0] at hlt; omega
    · exact h
  have Hm := Lib.hid hmono
  have Hp := Lib.hid hpos
  have H1 := Lib.hid h1
  have H2 := Lib.hid h2
  clear hmono hpos h1 h2 v0 v1 v2 v3 v4 v5
  go_enter Try.func20, Try.ntmps20
  go_wp2_with fail
  refine (size_any _).mono ?_
  rintro e w' ⟨rfl, rfl⟩
  go_wp2_with fail
  go_loop [2] (fun c => ∃ j : Nat, j ≤ 4 ∧ c = .int .i64 j ∧ Hid (j = 4 ∨ a < hb (j + 1))) (fun c => (intOf c).toNat)
  case atStart => exact ⟨4, by omega, rfl, Or.inl rfl⟩
  case round =>
    obtain ⟨j, hj, rfl, hor⟩ := hrel
    obtain ⟨B, hB⟩ : ∃ B, B = hb j := ⟨_, rfl⟩
    have hbase := fun w => base_any j (by omega) w
    rw [← hB] at hbase
    have Hbase := Lib.hid hbase
    have HB := Lib.hid hB
    clear hbase hB
    by_cases hlt : (a : Int) < (B : Int)
    · have hj1 := Hp.out j hj (by rw [← HB.out]; omega)
      go_wp2_with fail
      refine (Hbase.out _).mono ?_
      rintro e w' ⟨rfl, rfl⟩
      go_wp2
      go_round
      case rel => exact ⟨j - 1, by omega, by rw [show ((j - 1 : Nat) : Int) = (j : Int) - 1 by omega], by right; rw [show j - 1 + 1 = j by omega, ← HB.out]; omega⟩
      case measure => simp [intOf]; omega
    · obtain rfl : j = k := Hm.out j hj hor.out (by rw [← HB.out]; omega)
      have hd : decide ((a : Int) < (B : Int)) = false := by simpa using hlt
      have hBa : (B : Int) ≤ a := by omega
      go_wp2_with fail
      refine (Hbase.out _).mono ?_
      rintro e w' ⟨rfl, rfl⟩
      go_wp2_with fail
      obtain ⟨D, hD⟩ : ∃ D : Nat, IntKind.i64.wrap ((a : Int) - B) = D := ⟨a - B, by rw [wrap_i64]; omega⟩
      have hDe : D = a - B := by rw [wrap_i64] at hD; omega
      have HD := Lib.hid hDe
      have f0 : (D : Int).tmod 1 = (D % 1 : Nat) := rfl
      have f1 : (D : Int).tmod 2 = (D % 2 : Nat) := rfl
      have f2 : (D : Int).tmod 4 = (D % 4 : Nat) := rfl
      have f3 : (D : Int).tmod 8 = (D % 8 : Nat) := rfl
      have f4 : (D : Int).tmod 16 = (D % 16 : Nat) := rfl
      clear hDe
      obtain rfl | rfl | rfl | rfl | rfl : j = 0 ∨ j = 1 ∨ j = 2 ∨ j = 3 ∨ j = 4 := by omega
      all_goals
        refine wp_region_text 13 GQ (kindV [(4, fun v => v = .int .i64 (B : Nat))]) (by kernel_rfl) (by kernel_rfl) GQ.trans GQ.refl (GQ.start _) (kindV_mono _) ?_
        simp only [List.take_succ_cons, List.take_zero, List.drop_succ_cons, List.drop_zero]
        repeat (first | (refine rvc_det rfl rfl (by intro w hG hH; obtain ⟨n, rfl⟩ := hG; go_simp; first | done | with_reducible rfl) ?_; simp only [Act.put, List.setIfInBounds_toArray, List.set_cons_zero, List.set_cons_succ]) | (refine rvc_skip rfl ?_; simp only [Act.put, List.setIfInBounds_toArray, List.set_cons_zero, List.set_cons_succ]))
        refine rvc_rel rfl rfl ⟨_, rfl⟩ (by
          intro w hG hH; obtain ⟨n, rfl⟩ := hG
          refine opVal_call (by go_simp; first | done | exact ⟨⟨rfl, rfl⟩, rfl⟩) ?_
          refine (Hbase.out _).mono ?_
          rintro e w' ⟨rfl, hq⟩
          exact ⟨_, rfl, rfl, by (first | (obtain ⟨nq, rfl⟩ := hq) | subst hq); (try simp only [drew_eq1, drewN_drewN]); first | exact ⟨0, rfl⟩ | exact ⟨_, rfl⟩ | exact gq_le (by omega), trivial⟩) ?_
        rintro v rfl
        simp only [Act.put, List.setIfInBounds_toArray, List.set_cons_zero, List.set_cons_succ]
        repeat (first | (refine rvc_det rfl rfl (by intro w hG hH; obtain ⟨n, rfl⟩ := hG; go_simp; first | done | with_reducible rfl) ?_; simp only [Act.put, List.setIfInBounds_toArray, List.set_cons_zero, List.set_cons_succ]) | (refine rvc_skip rfl ?_; simp only [Act.put, List.setIfInBounds_toArray, List.set_cons_zero, List.set_cons_succ]))
        refine rvc_nil (fun w hG hH => ?_)
        obtain ⟨n, rfl⟩ := hG
        clear hH
        go_wp2
        go_ret3
        refine ⟨ret_eq (tup3 rfl (vint ?_) rfl), _, rfl⟩
        rw [← HB.out, ← HD.out]
        have := HD.out
        rw [w64 (by omega) (by omega)]
        omega

end Go.Proofs.Ytnfoabccbkedgaa

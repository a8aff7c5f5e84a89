/- The walks of loanwordref26: IsTaken, Give, Take. -/
import Derived.Test.YtnfoabccbkedgaaRefHeapB
namespace Go.Proofs.Ytnfoabccbkedgaa
open Go.RowKit

set_option maxRecDepth 100000 in
set_option maxHeartbeats 1000000 in
theorem ristaken_any (b : Nat) (s : HS) (x : Int) (w : World) (h : IX w b s) :
    Calls Try.prog 12 #[.pointer (some ⟨b,0,none⟩), .int .i64 x] w fun e w' => e = .returned (.tuple #[.bool (s.taken x).1, .int .i64 (s.taken x).2]) ∧ ∃ n, w' = w.drewN n := by
  cases hx : hblk x with
  | none =>
    have e1 : s.taken x = (false, 2) := by unfold HS.taken; rw [hx]
    rw [e1]
    have Hb := Lib.hid (rblock_no x hx)
    clear hx e1 h
    go_enter Try.func12, Try.ntmps12
    go_wp2_with fail
    refine (Hb.out _).mono ?_
    rintro e w' ⟨p, q, rfl, n, rfl⟩
    go_wp2
    go_ret2
    exact ⟨rfl, n, rfl⟩
  | some p =>
    obtain ⟨c, i⟩ := p
    obtain ⟨hc, hi, -⟩ := hblk_some hx
    have e1 : s.taken x = (s.T c i, 0) := by unfold HS.taken; rw [hx]
    rw [e1]
    have Hb := Lib.hid (rblock_yes x c i hx)
    have ct := h.cellT hc hi
    obtain ⟨v, hv⟩ : ∃ v, v = s.T c i := ⟨_, rfl⟩
    rw [← hv] at ct ⊢
    have hc' : (c : Int) < 5 := by omega
    have hi' : (i : Int) < 12 := by omega
    clear hx e1 h hv
    go_enter Try.func12, Try.ntmps12
    go_wp2_with fail
    refine (Hb.out _).mono ?_
    rintro e w' ⟨rfl, n, rfl⟩
    go_wp2
    go_ret2
    exact ⟨rfl, n, rfl⟩

set_option maxRecDepth 100000 in
set_option maxHeartbeats 1000000 in
theorem rgive_any (b : Nat) (s : HS) (x : Int) (w : World) (h : IX w b s) :
    Calls Try.prog 14 #[.pointer (some ⟨b,0,none⟩), .int .i64 x] w fun e w' => e = .returned (.int .i64 (s.give x).1) ∧ IX w' b (s.give x).2 ∧ KB (· = b) w w' := by
  cases hx : hblk x with
  | none =>
    have e1 : s.give x = (2, s) := by unfold HS.give; rw [hx]
    rw [e1]
    have Hb := Lib.hid (rblock_no x hx)
    have H := Lib.hid h
    clear hx e1 h
    go_enter Try.func14, Try.ntmps14
    go_wp2_with fail
    refine (Hb.out _).mono ?_
    rintro e w' ⟨p, q, rfl, n, rfl⟩
    go_wp2
    go_ret
    exact ⟨rfl, H.out, (KB.refl _ _).drewN _⟩
  | some p =>
    obtain ⟨c, i⟩ := p
    obtain ⟨hc, hi, -⟩ := hblk_some hx
    have Hb := Lib.hid (rblock_yes x c i hx)
    have ct := h.cellT hc hi
    have fz := h.frozen (c * 12 + i)
    have hc' : (c : Int) < 5 := by omega
    have hi' : (i : Int) < 12 := by omega
    cases hv : s.T c i with
    | false =>
      have e1 : s.give x = (261, s) := by unfold HS.give; rw [hx]; simp [hv]
      rw [e1]
      rw [hv] at ct
      have H := Lib.hid h
      clear hx e1 h hv
      go_enter Try.func14, Try.ntmps14
      go_wp2_with fail
      refine (Hb.out _).mono ?_
      rintro e w' ⟨rfl, n, rfl⟩
      go_wp2
      go_ret
      exact ⟨rfl, H.out, (KB.refl _ _).drewN _⟩
    | true =>
      have e1 : s.give x = (0, s.free c i) := by unfold HS.give; rw [hx]; simp [hv]
      rw [e1]
      rw [hv] at ct
      have H := Lib.hid (fun m => IX.setT (w := w.drewN m) h hc hi false)
      clear hx e1 h hv
      go_enter Try.func14, Try.ntmps14
      go_wp2_with fail
      refine (Hb.out _).mono ?_
      rintro e w' ⟨rfl, n, rfl⟩
      go_wp2
      go_ret
      exact ⟨rfl, H.out n, by exact ((KB.refl (· = b) w).drewN n).setCell (p := ⟨b, c * 12 + i, none⟩) (fun _ => rfl) _⟩

set_option maxHeartbeats 400000 in
theorem rtake_arg (b : Nat) (c : Int) (hc : c < 0 ∨ 5 ≤ c) (w : World) :
    Calls Try.prog 10 #[.pointer (some ⟨b,0,none⟩), .int .i64 c] w fun e w' => e = .returned (.tuple #[.int .i64 0, .int .i64 2]) ∧ w = w' := by
  rcases hc with hc | hc
  · have h1 : decide (c < 0) = true := by simpa using hc
    go_enter Try.func10, Try.ntmps10
    go_wp2
    go_ret2
    exact ⟨rfl, rfl⟩
  · have h1 : decide (c < 0) = false := by simp; omega
    have h2 : decide (5 ≤ c) = true := by simpa using hc
    go_enter Try.func10, Try.ntmps10
    go_wp2
    go_ret2
    exact ⟨rfl, rfl⟩

set_option maxRecDepth 100000 in
set_option maxHeartbeats 2000000 in
theorem rtake_yes (b : Nat) (s : HS) (c : Nat) (hc : c < 5) (w : World) (h : IX w b s) :
    Calls Try.prog 10 #[.pointer (some ⟨b,0,none⟩), .int .i64 c] w fun e w' =>
      e = .returned (.tuple #[.int .i64 (s.take c).1, .int .i64 (s.take c).2.1]) ∧ IX w' b (s.take c).2.2 ∧ KB (· = b) w w' := by
  have H := Lib.hid h
  clear h
  have h1 : decide ((c : Int) < 0) = false := by simp
  have h2 : decide ((5 : Int) ≤ (c : Int)) = false := by simp; omega
  have hc' : (c : Int) < 5 := by omega
  go_enter Try.func10, Try.ntmps10
  go_wp2
  go_loop [6] (fun i => ∃ k : Nat, k ≤ 12 ∧ i = .int .i64 k ∧ Hid (∀ j, j < k → s.T c j = true)) (fun i => 12 - (intOf i).toNat)
  case atStart => exact ⟨0, by omega, rfl, (fun j hj => by omega)⟩
  case round =>
    obtain ⟨k, hk, rfl, hj⟩ := hrel
    by_cases hlt : k < 12
    · have ck := H.out.cellT hc hlt
      have hk' : (k : Int) < 12 := by omega
      by_cases hf : s.T c k = true
      · have hj' : Hid (∀ j, j < k + 1 → s.T c j = true) := Lib.hid fun j hj2 => by
          by_cases e : j = k
          · subst e; exact hf
          · exact hj.out j (by omega)
        rw [hf] at ck
        clear hf hj
        go_wp2
        go_round
        case rel => exact ⟨k + 1, by omega, by go_num, hj'⟩
        case measure => simp [intOf]; omega
      · have hf' : s.T c k = false := by simpa using hf
        have htk : s.take c = (((hb c + k * 2 ^ c : Nat) : Int), 0, s.mark c k) := by
          unfold HS.take
          rw [if_neg (by omega), Int.toNat_natCast, ffree_of hlt hf' hj.out]
        rw [hf'] at ck
        have fz := H.out.frozen (c * 12 + k)
        have i1 := H.out.setT hc hlt true
        obtain ⟨g, hg⟩ : ∃ g, g = up (s.T c) k true := ⟨_, rfl⟩
        obtain ⟨m0, hm0⟩ : ∃ m0, m0 = s.M c := ⟨_, rfl⟩
        obtain ⟨s1, hs1⟩ : ∃ s1 : HS, s1 = ⟨upc s.T c (up (s.T c) k true), s.M⟩ := ⟨_, rfl⟩
        obtain ⟨W1, hW1⟩ : ∃ W1, W1 = w.setCell ⟨b, c * 12 + k, none⟩ (.bool true) := ⟨_, rfl⟩
        have k1 : KB (· = b) w W1 := by rw [hW1]; exact (KB.refl (· = b) w).setCell (p := ⟨b, c * 12 + k, none⟩) (fun _ => rfl) _
        rw [← hW1, ← hs1] at i1
        have hs1g : s1.T c = g := by rw [hs1, hg]; simp [upc]
        have cM := i1.cellM hc
        have fM := i1.frozen (60 + c)
        rw [hs1, ← hm0] at cM
        have Hcn := Lib.hid (fun n => rcount_any b s1 c hc (W1.drewN n) i1)
        rw [hs1g] at Hcn
        obtain ⟨C, hC⟩ : ∃ C, C = cnt g := ⟨_, rfl⟩
        rw [← hC] at Hcn
        have hC12 : C ≤ 12 := by rw [hC]; exact cnt_le g
        have HW1 := Lib.hid hW1
        obtain ⟨A, hA⟩ : ∃ A, A = hb c + k * 2 ^ c := ⟨_, rfl⟩
        have Ha := Lib.hid (fun w => raddr_any c hc k (by omega) w)
        rw [← hA] at Ha htk
        have Htk := Lib.hid htk
        by_cases hgt : m0 < C
        · have d3 : decide ((m0 : Int) < (C : Int)) = true := by simp; omega
          have hmk : (⟨s1.T, upc s1.M c C⟩ : HS) = s.mark c k := by
            unfold HS.mark; rw [hs1]; simp only; rw [← hg, ← hC, ← hm0, Nat.max_eq_right (by omega)]
          have Hi := Lib.hid (fun n => IX.setM (w := W1.drewN n) i1 hc C (by omega))
          rw [hmk] at Hi
          have K1 := Lib.hid k1
          clear hf hf' hj htk i1 hg hm0 hs1 hW1 k1 hs1g hC hA hmk
          go_wp2_with fail
          rw [← HW1.out]
          refine wp_region_rv 10 GQ (kindV [(2, fun v => v = .int .i64 (C : Nat))]) (by kernel_rfl) (by kernel_rfl) GQ.trans GQ.refl (GQ.start _) (kindV_mono _) ?_
          simp only [List.take_succ_cons, List.take_zero, List.drop_succ_cons, List.drop_zero]
          refine rv_det (by kernel_rfl) rfl (by intro w hG hH; obtain ⟨n, rfl⟩ := hG; go_simp; first | done | with_reducible rfl) ?_
          simp only [Act.put, List.setIfInBounds_toArray, List.set_cons_zero, List.set_cons_succ]
          refine rv_det (by kernel_rfl) rfl (by intro w hG hH; obtain ⟨n, rfl⟩ := hG; go_simp; first | done | with_reducible rfl) ?_
          simp only [Act.put, List.setIfInBounds_toArray, List.set_cons_zero, List.set_cons_succ]
          refine rv_rel (by kernel_rfl) rfl ⟨_, rfl⟩ (by
            intro w hG hH; obtain ⟨n, rfl⟩ := hG
            refine opVal_call (by go_simp; first | done | exact ⟨⟨rfl, rfl⟩, rfl⟩) ?_
            refine (Hcn.out _).mono ?_
            rintro e w' ⟨rfl, hq⟩
            exact ⟨_, rfl, rfl, by (first | (obtain ⟨nq, rfl⟩ := hq) | subst hq); (try simp only [drew_eq1, drewN_drewN]); first | exact ⟨0, rfl⟩ | exact ⟨_, rfl⟩ | exact gq_le (by omega), trivial⟩) ?_
          rintro v rfl
          simp only [Act.put, List.setIfInBounds_toArray, List.set_cons_zero, List.set_cons_succ]
          refine rv_det (by kernel_rfl) rfl (by intro w hG hH; obtain ⟨n, rfl⟩ := hG; go_simp; first | done | with_reducible rfl) ?_
          simp only [Act.put, List.setIfInBounds_toArray, List.set_cons_zero, List.set_cons_succ]
          refine rv_det (by kernel_rfl) rfl (by intro w hG hH; obtain ⟨n, rfl⟩ := hG; go_simp; first | done | with_reducible rfl) ?_
          simp only [Act.put, List.setIfInBounds_toArray, List.set_cons_zero, List.set_cons_succ]
          refine rv_det (by kernel_rfl) rfl (by intro w hG hH; obtain ⟨n, rfl⟩ := hG; go_simp; first | done | with_reducible rfl) ?_
          simp only [Act.put, List.setIfInBounds_toArray, List.set_cons_zero, List.set_cons_succ]
          refine rv_det (by kernel_rfl) rfl (by intro w hG hH; obtain ⟨n, rfl⟩ := hG; go_simp; first | done | with_reducible rfl) ?_
          simp only [Act.put, List.setIfInBounds_toArray, List.set_cons_zero, List.set_cons_succ]
          refine rv_det (by kernel_rfl) rfl (by intro w hG hH; obtain ⟨n, rfl⟩ := hG; go_simp; first | done | with_reducible rfl) ?_
          simp only [Act.put, List.setIfInBounds_toArray, List.set_cons_zero, List.set_cons_succ]
          refine rv_det (by kernel_rfl) rfl (by intro w hG hH; obtain ⟨n, rfl⟩ := hG; go_simp; first | done | with_reducible rfl) ?_
          simp only [Act.put, List.setIfInBounds_toArray, List.set_cons_zero, List.set_cons_succ]
          refine rv_det (by kernel_rfl) rfl (by intro w hG hH; obtain ⟨n, rfl⟩ := hG; go_simp; first | done | with_reducible rfl) ?_
          simp only [Act.put, List.setIfInBounds_toArray, List.set_cons_zero, List.set_cons_succ]
          refine rv_nil (fun w hG hH => ?_)
          obtain ⟨n, rfl⟩ := hG
          clear hH
          go_wp2_with fail
          refine wp_region_rv 8 GQ (kindV [(4, fun v => v = .int .i64 (C : Nat))]) (by kernel_rfl) (by kernel_rfl) GQ.trans GQ.refl (GQ.start _) (kindV_mono _) ?_
          simp only [List.take_succ_cons, List.take_zero, List.drop_succ_cons, List.drop_zero]
          refine rv_det (by kernel_rfl) rfl (by intro w hG hH; obtain ⟨n, rfl⟩ := hG; go_simp; first | done | with_reducible rfl) ?_
          simp only [Act.put, List.setIfInBounds_toArray, List.set_cons_zero, List.set_cons_succ]
          refine rv_det (by kernel_rfl) rfl (by intro w hG hH; obtain ⟨n, rfl⟩ := hG; go_simp; first | done | with_reducible rfl) ?_
          simp only [Act.put, List.setIfInBounds_toArray, List.set_cons_zero, List.set_cons_succ]
          refine rv_det (by kernel_rfl) rfl (by intro w hG hH; obtain ⟨n, rfl⟩ := hG; go_simp; first | done | with_reducible rfl) ?_
          simp only [Act.put, List.setIfInBounds_toArray, List.set_cons_zero, List.set_cons_succ]
          refine rv_det (by kernel_rfl) rfl (by intro w hG hH; obtain ⟨n, rfl⟩ := hG; go_simp; first | done | with_reducible rfl) ?_
          simp only [Act.put, List.setIfInBounds_toArray, List.set_cons_zero, List.set_cons_succ]
          refine rv_rel (by kernel_rfl) rfl ⟨_, rfl⟩ (by
            intro w hG hH; obtain ⟨n, rfl⟩ := hG
            refine opVal_call (by go_simp; first | done | exact ⟨⟨rfl, rfl⟩, rfl⟩) ?_
            refine (Hcn.out _).mono ?_
            rintro e w' ⟨rfl, hq⟩
            exact ⟨_, rfl, rfl, by (first | (obtain ⟨nq, rfl⟩ := hq) | subst hq); (try simp only [drew_eq1, drewN_drewN]); first | exact ⟨0, rfl⟩ | exact ⟨_, rfl⟩ | exact gq_le (by omega), trivial⟩) ?_
          rintro v rfl
          simp only [Act.put, List.setIfInBounds_toArray, List.set_cons_zero, List.set_cons_succ]
          refine rv_det (by kernel_rfl) rfl (by intro w hG hH; obtain ⟨n, rfl⟩ := hG; go_simp; first | done | with_reducible rfl) ?_
          simp only [Act.put, List.setIfInBounds_toArray, List.set_cons_zero, List.set_cons_succ]
          refine rv_det (by kernel_rfl) rfl (by intro w hG hH; obtain ⟨n, rfl⟩ := hG; go_simp; first | done | with_reducible rfl) ?_
          simp only [Act.put, List.setIfInBounds_toArray, List.set_cons_zero, List.set_cons_succ]
          refine rv_det (by kernel_rfl) rfl (by intro w hG hH; obtain ⟨n, rfl⟩ := hG; go_simp; first | done | with_reducible rfl) ?_
          simp only [Act.put, List.setIfInBounds_toArray, List.set_cons_zero, List.set_cons_succ]
          refine rv_nil (fun w hG hH => ?_)
          obtain ⟨n, rfl⟩ := hG
          clear hH
          go_wp2_with fail
          refine (Ha.out _).mono ?_
          rintro e w' ⟨rfl, m, rfl⟩
          go_wp2
          go_ret2
          rw [Htk.out]
          refine ⟨rfl, Hi.out _, ?_⟩
          exact ((K1.out.drewN _).setCell (p := ⟨b, 60 + c, none⟩) (fun _ => rfl) _).drewN _
        · have d3 : decide ((m0 : Int) < (C : Int)) = false := by simp; omega
          have hmk : s1 = s.mark c k := by
            unfold HS.mark; rw [hs1]; rw [← hg, ← hC, ← hm0, Nat.max_eq_left (by omega), hm0]
            congr 1
            funext j; unfold upc; split
            · rename_i e; rw [e]
            · rfl
          rw [hmk] at i1
          have Hi := Lib.hid i1
          have K1 := Lib.hid k1
          clear hf hf' hj htk i1 hg hm0 hs1 hW1 k1 hs1g hC hA hmk
          go_wp2_with fail
          rw [← HW1.out]
          refine wp_region_rv 10 GQ (kindV [(2, fun v => v = .int .i64 (C : Nat))]) (by kernel_rfl) (by kernel_rfl) GQ.trans GQ.refl (GQ.start _) (kindV_mono _) ?_
          simp only [List.take_succ_cons, List.take_zero, List.drop_succ_cons, List.drop_zero]
          refine rv_det (by kernel_rfl) rfl (by intro w hG hH; obtain ⟨n, rfl⟩ := hG; go_simp; first | done | with_reducible rfl) ?_
          simp only [Act.put, List.setIfInBounds_toArray, List.set_cons_zero, List.set_cons_succ]
          refine rv_det (by kernel_rfl) rfl (by intro w hG hH; obtain ⟨n, rfl⟩ := hG; go_simp; first | done | with_reducible rfl) ?_
          simp only [Act.put, List.setIfInBounds_toArray, List.set_cons_zero, List.set_cons_succ]
          refine rv_rel (by kernel_rfl) rfl ⟨_, rfl⟩ (by
            intro w hG hH; obtain ⟨n, rfl⟩ := hG
            refine opVal_call (by go_simp; first | done | exact ⟨⟨rfl, rfl⟩, rfl⟩) ?_
            refine (Hcn.out _).mono ?_
            rintro e w' ⟨rfl, hq⟩
            exact ⟨_, rfl, rfl, by (first | (obtain ⟨nq, rfl⟩ := hq) | subst hq); (try simp only [drew_eq1, drewN_drewN]); first | exact ⟨0, rfl⟩ | exact ⟨_, rfl⟩ | exact gq_le (by omega), trivial⟩) ?_
          rintro v rfl
          simp only [Act.put, List.setIfInBounds_toArray, List.set_cons_zero, List.set_cons_succ]
          refine rv_det (by kernel_rfl) rfl (by intro w hG hH; obtain ⟨n, rfl⟩ := hG; go_simp; first | done | with_reducible rfl) ?_
          simp only [Act.put, List.setIfInBounds_toArray, List.set_cons_zero, List.set_cons_succ]
          refine rv_det (by kernel_rfl) rfl (by intro w hG hH; obtain ⟨n, rfl⟩ := hG; go_simp; first | done | with_reducible rfl) ?_
          simp only [Act.put, List.setIfInBounds_toArray, List.set_cons_zero, List.set_cons_succ]
          refine rv_det (by kernel_rfl) rfl (by intro w hG hH; obtain ⟨n, rfl⟩ := hG; go_simp; first | done | with_reducible rfl) ?_
          simp only [Act.put, List.setIfInBounds_toArray, List.set_cons_zero, List.set_cons_succ]
          refine rv_det (by kernel_rfl) rfl (by intro w hG hH; obtain ⟨n, rfl⟩ := hG; go_simp; first | done | with_reducible rfl) ?_
          simp only [Act.put, List.setIfInBounds_toArray, List.set_cons_zero, List.set_cons_succ]
          refine rv_det (by kernel_rfl) rfl (by intro w hG hH; obtain ⟨n, rfl⟩ := hG; go_simp; first | done | with_reducible rfl) ?_
          simp only [Act.put, List.setIfInBounds_toArray, List.set_cons_zero, List.set_cons_succ]
          refine rv_det (by kernel_rfl) rfl (by intro w hG hH; obtain ⟨n, rfl⟩ := hG; go_simp; first | done | with_reducible rfl) ?_
          simp only [Act.put, List.setIfInBounds_toArray, List.set_cons_zero, List.set_cons_succ]
          refine rv_det (by kernel_rfl) rfl (by intro w hG hH; obtain ⟨n, rfl⟩ := hG; go_simp; first | done | with_reducible rfl) ?_
          simp only [Act.put, List.setIfInBounds_toArray, List.set_cons_zero, List.set_cons_succ]
          refine rv_nil (fun w hG hH => ?_)
          obtain ⟨n, rfl⟩ := hG
          clear hH
          go_wp2_with fail
          refine (Ha.out _).mono ?_
          rintro e w' ⟨rfl, m, rfl⟩
          go_wp2
          go_ret2
          rw [Htk.out]
          exact ⟨rfl, Hi.out, K1.out.drewN _⟩
    · obtain rfl : k = 12 := by omega
      have htk : s.take c = (0, 260, s) := by
        unfold HS.take
        rw [if_neg (by omega), Int.toNat_natCast, ffree_no hj.out]
      have Htk := Lib.hid htk
      clear htk hj
      go_wp2
      go_ret2
      rw [Htk.out]
      exact ⟨rfl, H.out, KB.refl _ _⟩

/-- Take of the document's answer. -/
theorem rtake_any (b : Nat) (s : HS) (c : Int) (w : World) (h : IX w b s) :
    Calls Try.prog 10 #[.pointer (some ⟨b,0,none⟩), .int .i64 c] w fun e w' =>
      e = .returned (.tuple #[.int .i64 (s.take c).1, .int .i64 (s.take c).2.1]) ∧ IX w' b (s.take c).2.2 ∧ KB (· = b) w w' := by
  by_cases hc : c < 0 ∨ 5 ≤ c
  · have e1 : s.take c = (0, 2, s) := by unfold HS.take; rw [if_pos hc]
    rw [e1]
    refine (rtake_arg b c hc w).mono ?_
    rintro e w' ⟨rfl, rfl⟩
    exact ⟨rfl, h, KB.refl _ _⟩
  · obtain ⟨k, rfl⟩ := Int.eq_ofNat_of_zero_le (show 0 ≤ c by omega)
    exact rtake_yes b s k (by omega) w h
end Go.Proofs.Ytnfoabccbkedgaa

/- The walks of loanwordref26: Base, Address, Class, block, Count, IsTaken. -/
import Derived.Test.YtnfoabccbkedgaaHeapE
import Derived.Test.YtnfoabccbkedgaaRegionIn
namespace Go.Proofs.Ytnfoabccbkedgaa
open Go.RowKit

set_option maxHeartbeats 400000 in
theorem rbase_any (c : Nat) (hc : c ≤ 5) (w : World) :
    Calls Try.prog 36 #[.int .i64 c] w fun e w' => e = .returned (.int .i64 (hb c : Nat)) ∧ w = w' := by
  have hcl : (c : Int) ≤ 5 := by omega
  go_enter Try.func36, Try.ntmps36
  go_wp2
  go_loop [3, 4] (fun a i => ∃ k : Nat, k ≤ c ∧ i = .int .i64 k ∧ a = .int .i64 (hb k : Nat)) (fun _ i => c - (intOf i).toNat)
  case atStart => exact ⟨0, by omega, rfl, rfl⟩
  case round =>
    obtain ⟨k, hk, rfl, rfl⟩ := hrel
    by_cases hlt : k < c
    · obtain rfl | rfl | rfl | rfl | rfl : k = 0 ∨ k = 1 ∨ k = 2 ∨ k = 3 ∨ k = 4 := by omega
      all_goals
        simp only [hb, Nat.reducePow, Nat.reduceSub, Nat.reduceMul, Nat.reduceAdd]
        go_wp2
        go_round
        case rel => exact ⟨_, hlt, by rfl, by rfl⟩
        case measure => simp [intOf]; omega
    · obtain rfl : k = c := by omega
      go_wp2
      go_ret
      exact ⟨rfl, rfl⟩

set_option maxHeartbeats 1000000 in
theorem raddr_any (c : Nat) (hc : c < 5) (i : Nat) (hi : i ≤ 12) (w : World) :
    Calls Try.prog 30 #[.int .i64 c, .int .i64 i] w fun e w' => e = .returned (.int .i64 (hb c + i * 2 ^ c : Nat)) ∧ ∃ n, w' = w.drewN n := by
  obtain ⟨B, hB⟩ : ∃ B, B = hb c := ⟨_, rfl⟩
  have hbl : (B : Int) ≤ 181 := by
    rw [hB]
    obtain rfl | rfl | rfl | rfl | rfl : c = 0 ∨ c = 1 ∨ c = 2 ∨ c = 3 ∨ c = 4 := by omega
    all_goals decide
  have Hb := Lib.hid (fun w => rbase_any c (by omega) w)
  rw [← hB] at Hb ⊢
  clear hB
  obtain rfl | rfl | rfl | rfl | rfl : c = 0 ∨ c = 1 ∨ c = 2 ∨ c = 3 ∨ c = 4 := by omega
  all_goals
    go_enter Try.func30, Try.ntmps30
    go_wp2_with fail
    refine wp_region_rv 7 GQ (kindV [(1, fun v => v = .int .i64 (B : Nat))]) (by kernel_rfl) (by kernel_rfl) GQ.trans GQ.refl (GQ.start _) (kindV_mono _) ?_
    simp only [List.take_succ_cons, List.take_zero, List.drop_succ_cons, List.drop_zero]
    refine rv_det (by kernel_rfl) rfl (by intro w hG hH; obtain ⟨n, rfl⟩ := hG; go_simp; first | done | with_reducible rfl) ?_
    simp only [Act.put, List.setIfInBounds_toArray, List.set_cons_zero, List.set_cons_succ]
    refine rv_rel (by kernel_rfl) rfl ⟨_, rfl⟩ (by
      intro w hG hH; obtain ⟨n, rfl⟩ := hG
      refine opVal_call (by go_simp; first | done | exact ⟨⟨rfl, rfl⟩, rfl⟩) ?_
      refine (Hb.out _).mono ?_
      rintro e w' ⟨rfl, hq⟩
      exact ⟨_, rfl, rfl, by (first | (obtain ⟨nq, rfl⟩ := hq) | subst hq); (try simp only [drew_eq1, drewN_drewN]); first | exact ⟨0, rfl⟩ | exact ⟨_, rfl⟩ | exact gq_le (by omega), trivial⟩) ?_
    rintro v rfl
    simp only [Act.put, List.setIfInBounds_toArray, List.set_cons_zero, List.set_cons_succ]
    refine rv_det (by kernel_rfl) rfl (by intro w hG hH; obtain ⟨n, rfl⟩ := hG; go_simp; first | done | with_reducible rfl) ?_
    simp only [Act.put, List.setIfInBounds_toArray, List.set_cons_zero, List.set_cons_succ]
    refine rv_det (by kernel_rfl) rfl (by intro w hG hH; obtain ⟨n, rfl⟩ := hG; go_simp; first | done | with_reducible rfl) ?_
    simp only [Act.put, List.setIfInBounds_toArray, List.set_cons_zero, List.set_cons_succ]
    refine rv_det (by kernel_rfl) rfl (by intro w hG hH; obtain ⟨n, rfl⟩ := hG; go_simp; first | done | with_reducible rfl) ?_
    simp only [Act.put, List.setIfInBounds_toArray, List.set_cons_zero, List.set_cons_succ]
    refine rv_det (by kernel_rfl) rfl (by intro w hG hH; obtain ⟨n, rfl⟩ := hG; go_simp; first | done | with_reducible rfl) ?_
    simp only [Act.put, List.setIfInBounds_toArray, List.set_cons_zero, List.set_cons_succ]
    refine rv_det (by kernel_rfl) rfl (by intro w hG hH; obtain ⟨n, rfl⟩ := hG; go_simp; first | done | with_reducible rfl) ?_
    simp only [Act.put, List.setIfInBounds_toArray, List.set_cons_zero, List.set_cons_succ]
    refine rv_nil (fun w hG hH => ?_)
    obtain ⟨n, rfl⟩ := hG
    clear hH
    go_wp2
    go_ret
    refine ⟨ret_int ?_, _, rfl⟩
    simp only [wrap_i64]; omega
/-- The block of an address, if it is one's (any word). -/
def wblk (x : Int) : Option (Nat × Nat) := if x < 1 ∨ 372 < x then none else some (wcls x.toNat, (x.toNat - hb (wcls x.toNat)) / 2 ^ wcls x.toNat)
def clsRes (x : Int) : Value := match wblk x with
  | some (c, n) => .tuple #[.int .i64 (c : Nat), .int .i64 (n : Nat), .bool true]
  | none => .tuple #[.int .i64 0, .int .i64 0, .bool false]
def inBlk (x : Int) (c n : Nat) : Prop := ((hb c + n * 2 ^ c : Nat) : Int) ≤ x ∧ x < ((hb c + n * 2 ^ c + 2 ^ c : Nat) : Int)
set_option maxRecDepth 100000 in
theorem inBlk_all : ∀ c, c < 5 → ∀ n, n < 12 → ∀ j, j < 2 ^ c → wcls (hb c + n * 2 ^ c + j) = c ∧ (hb c + n * 2 ^ c + j - hb c) / 2 ^ c = n := by decide +kernel
set_option maxRecDepth 100000 in
theorem inBlk_wcls : ∀ a, a < 373 → 1 ≤ a → hb (wcls a) + (a - hb (wcls a)) / 2 ^ wcls a * 2 ^ wcls a ≤ a ∧ a < hb (wcls a) + (a - hb (wcls a)) / 2 ^ wcls a * 2 ^ wcls a + 2 ^ wcls a ∧ wcls a < 5 ∧ (a - hb (wcls a)) / 2 ^ wcls a < 12 := by decide +kernel
set_option maxRecDepth 100000 in
theorem blk_range : ∀ c, c < 5 → ∀ n, n < 12 → 1 ≤ hb c + n * 2 ^ c ∧ hb c + n * 2 ^ c + 2 ^ c ≤ 373 := by decide +kernel
theorem wblk_yes {x : Int} {c n : Nat} (hc : c < 5) (hn : n < 12) (h : inBlk x c n) : wblk x = some (c, n) := by
  obtain ⟨h1, h2⟩ := h
  obtain ⟨r1, r2⟩ := blk_range c hc n hn
  obtain ⟨h3, h4⟩ := inBlk_all c hc n hn (x.toNat - (hb c + n * 2 ^ c)) (by omega)
  rw [show hb c + n * 2 ^ c + (x.toNat - (hb c + n * 2 ^ c)) = x.toNat by omega] at h3 h4
  unfold wblk
  rw [if_neg (by omega), h3, h4]
theorem wblk_no {x : Int} (h : ∀ c, c < 5 → ∀ n, n < 12 → ¬ inBlk x c n) : wblk x = none := by
  unfold wblk
  split
  · rfl
  · rename_i hr
    obtain ⟨h1, h2, h3, h4⟩ := inBlk_wcls x.toNat (by omega) (by omega)
    exact absurd ⟨by omega, by omega⟩ (h _ h3 _ h4)

set_option maxRecDepth 100000 in
set_option maxHeartbeats 2000000 in
theorem rclass_any (x : Int) (w : World) :
    Calls Try.prog 37 #[.int .i64 x] w fun e w' => e = .returned (clsRes x) ∧ ∃ n, w' = w.drewN n := by
  go_enter Try.func37, Try.ntmps37
  go_wp2_with fail
  go_loopw [5, 6] (fun i j wr => ∃ k : Nat, k ≤ 5 ∧ i = .int .i64 k ∧ Hid (∀ c, c < k → ∀ n, n < 12 → ¬ inBlk x c n) ∧ ∃ m, wr = w.drewN m) (fun i _ _ => 5 - (intOf i).toNat)
  case atStart => exact ⟨0, by omega, rfl, (fun c hc => by omega), 0, rfl⟩
  case round =>
    obtain ⟨k, hk, rfl, hs, m, rfl⟩ := hrel
    by_cases hlt : k < 5
    · go_wp2_with fail
      obtain ⟨wo, rfl⟩ : ∃ wo : World, wo = w := ⟨_, rfl⟩
      go_loopw [6] (fun j wr => ∃ l : Nat, l ≤ 12 ∧ j = .int .i64 l ∧ Hid (∀ n, n < l → ¬ inBlk x k n) ∧ ∃ m, wr = wo.drewN m) (fun j _ => 12 - (intOf j).toNat)
      case atStart => exact ⟨0, by omega, rfl, (fun c hc => by omega), _, rfl⟩
      case round =>
        obtain ⟨l, hl, rfl, hr, m2, rfl⟩ := hrel
        by_cases hlt2 : l < 12
        · obtain ⟨A, hA⟩ : ∃ A, A = hb k + l * 2 ^ k := ⟨_, rfl⟩
          have hal : (A : Int) ≤ 372 := by have := (blk_range k hlt l hlt2).2; have := Nat.two_pow_pos k; omega
          have Ha := Lib.hid (fun w => raddr_any k hlt l (by omega) w)
          rw [← hA] at Ha
          by_cases hge : x < (A : Int)
          · have hnot : ¬ inBlk x k l := fun h => by have := h.1; rw [← hA] at this; omega
            have hr' : Hid (∀ n, n < l + 1 → ¬ inBlk x k n) := Lib.hid fun n hn => by
              by_cases e : n = l
              · subst e; exact hnot
              · exact hr.out n (by omega)
            have d1 : decide ((A : Int) ≤ x) = false := by simp; omega
            clear hA hnot hr
            go_wp2_with fail
            refine wp_region_rv 15 GQ (kindV [(3, fun v => v = .int .i64 (A : Nat))]) (by kernel_rfl) (by kernel_rfl) GQ.trans GQ.refl (GQ.start _) (kindV_mono _) ?_
            simp only [List.take_succ_cons, List.take_zero, List.drop_succ_cons, List.drop_zero]
            refine rv_det (by kernel_rfl) rfl (by intro w hG hH; obtain ⟨n, rfl⟩ := hG; go_simp; first | done | with_reducible rfl) ?_
            simp only [Act.put, List.setIfInBounds_toArray, List.set_cons_zero, List.set_cons_succ]
            refine rv_det (by kernel_rfl) rfl (by intro w hG hH; obtain ⟨n, rfl⟩ := hG; go_simp; first | done | with_reducible rfl) ?_
            simp only [Act.put, List.setIfInBounds_toArray, List.set_cons_zero, List.set_cons_succ]
            refine rv_det (by kernel_rfl) rfl (by intro w hG hH; obtain ⟨n, rfl⟩ := hG; go_simp; first | done | with_reducible rfl) ?_
            simp only [Act.put, List.setIfInBounds_toArray, List.set_cons_zero, List.set_cons_succ]
            refine rv_rel (by kernel_rfl) rfl ⟨_, rfl⟩ (by
              intro w hG hH; obtain ⟨n, rfl⟩ := hG
              refine opVal_call (by go_simp; first | done | exact ⟨⟨rfl, rfl⟩, rfl⟩) ?_
              refine (Ha.out _).mono ?_
              rintro e w' ⟨rfl, hq⟩
              exact ⟨_, rfl, rfl, by (first | (obtain ⟨nq, rfl⟩ := hq) | subst hq); (try simp only [drew_eq1, drewN_drewN]); first | exact ⟨0, rfl⟩ | exact ⟨_, rfl⟩ | exact gq_le (by omega), trivial⟩) ?_
            rintro v rfl
            simp only [Act.put, List.setIfInBounds_toArray, List.set_cons_zero, List.set_cons_succ]
            refine rv_det (by kernel_rfl) rfl (by intro w hG hH; obtain ⟨n, rfl⟩ := hG; go_simp; first | done | with_reducible rfl) ?_
            simp only [Act.put, List.setIfInBounds_toArray, List.set_cons_zero, List.set_cons_succ]
            refine rv_det (by kernel_rfl) rfl (by intro w hG hH; obtain ⟨n, rfl⟩ := hG; go_simp; first | done | with_reducible rfl) ?_
            simp only [Act.put, List.setIfInBounds_toArray, List.set_cons_zero, List.set_cons_succ]
            refine rv_skip (by kernel_rfl) ?_
            simp only [Act.put, List.setIfInBounds_toArray, List.set_cons_zero, List.set_cons_succ]
            refine rv_skip (by kernel_rfl) ?_
            simp only [Act.put, List.setIfInBounds_toArray, List.set_cons_zero, List.set_cons_succ]
            refine rv_skip (by kernel_rfl) ?_
            simp only [Act.put, List.setIfInBounds_toArray, List.set_cons_zero, List.set_cons_succ]
            refine rv_skip (by kernel_rfl) ?_
            simp only [Act.put, List.setIfInBounds_toArray, List.set_cons_zero, List.set_cons_succ]
            refine rv_skip (by kernel_rfl) ?_
            simp only [Act.put, List.setIfInBounds_toArray, List.set_cons_zero, List.set_cons_succ]
            refine rv_skip (by kernel_rfl) ?_
            simp only [Act.put, List.setIfInBounds_toArray, List.set_cons_zero, List.set_cons_succ]
            refine rv_skip (by kernel_rfl) ?_
            simp only [Act.put, List.setIfInBounds_toArray, List.set_cons_zero, List.set_cons_succ]
            refine rv_skip (by kernel_rfl) ?_
            simp only [Act.put, List.setIfInBounds_toArray, List.set_cons_zero, List.set_cons_succ]
            refine rv_det (by kernel_rfl) rfl (by intro w hG hH; obtain ⟨n, rfl⟩ := hG; go_simp; first | done | with_reducible rfl) ?_
            simp only [Act.put, List.setIfInBounds_toArray, List.set_cons_zero, List.set_cons_succ]
            refine rv_nil (fun w hG hH => ?_)
            obtain ⟨n, rfl⟩ := hG
            clear hH
            go_wp2
            go_roundw
            case rel => exact ⟨l + 1, by omega, by go_num, hr', _, rfl⟩
            case measure => simp [intOf]; omega
          · have d1 : decide ((A : Int) ≤ x) = true := by simp; omega
            have hpk : 2 ^ k ≤ 16 := by
              obtain rfl | rfl | rfl | rfl | rfl : k = 0 ∨ k = 1 ∨ k = 2 ∨ k = 3 ∨ k = 4 := by omega
              all_goals decide
            have hwr : IntKind.i64.wrap ((A : Int) + ((2 ^ k : Nat) : Int)) = (A : Int) + ((2 ^ k : Nat) : Int) := w64 (by generalize 2 ^ k = E at hpk; omega) (by generalize 2 ^ k = E at hpk; omega)
            clear hpk
            by_cases hin : x < ((A + 2 ^ k : Nat) : Int)
            · have hres : clsRes x = .tuple #[.int .i64 (k : Nat), .int .i64 (l : Nat), .bool true] := by
                unfold clsRes
                rw [wblk_yes hlt hlt2 ⟨by rw [← hA]; omega, by rw [← hA]; exact hin⟩]
              have Hr := Lib.hid hres
              clear hres hA hr hs
              obtain rfl | rfl | rfl | rfl | rfl : k = 0 ∨ k = 1 ∨ k = 2 ∨ k = 3 ∨ k = 4 := by omega
              all_goals
                simp only [Nat.reducePow] at hin hwr
                push_cast at hwr
                have d2 := decide_eq_true hin
                push_cast at d2
                go_wp2_with fail
                refine wp_region_rv 15 GQ (kindV [(3, fun v => v = .int .i64 (A : Nat)), (9, fun v => v = .int .i64 (A : Nat))]) (by kernel_rfl) (by kernel_rfl) GQ.trans GQ.refl (GQ.start _) (kindV_mono _) ?_
                simp only [List.take_succ_cons, List.take_zero, List.drop_succ_cons, List.drop_zero]
                refine rv_det (by kernel_rfl) rfl (by intro w hG hH; obtain ⟨n, rfl⟩ := hG; go_simp; first | done | with_reducible rfl) ?_
                simp only [Act.put, List.setIfInBounds_toArray, List.set_cons_zero, List.set_cons_succ]
                refine rv_det (by kernel_rfl) rfl (by intro w hG hH; obtain ⟨n, rfl⟩ := hG; go_simp; first | done | with_reducible rfl) ?_
                simp only [Act.put, List.setIfInBounds_toArray, List.set_cons_zero, List.set_cons_succ]
                refine rv_det (by kernel_rfl) rfl (by intro w hG hH; obtain ⟨n, rfl⟩ := hG; go_simp; first | done | with_reducible rfl) ?_
                simp only [Act.put, List.setIfInBounds_toArray, List.set_cons_zero, List.set_cons_succ]
                refine rv_rel (by kernel_rfl) rfl ⟨_, rfl⟩ (by
                  intro w hG hH; obtain ⟨n, rfl⟩ := hG
                  refine opVal_call (by go_simp; first | done | exact ⟨⟨rfl, rfl⟩, rfl⟩) ?_
                  refine (Ha.out _).mono ?_
                  rintro e w' ⟨rfl, hq⟩
                  exact ⟨_, rfl, rfl, by (first | (obtain ⟨nq, rfl⟩ := hq) | subst hq); (try simp only [drew_eq1, drewN_drewN]); first | exact ⟨0, rfl⟩ | exact ⟨_, rfl⟩ | exact gq_le (by omega), trivial⟩) ?_
                rintro v rfl
                simp only [Act.put, List.setIfInBounds_toArray, List.set_cons_zero, List.set_cons_succ]
                refine rv_det (by kernel_rfl) rfl (by intro w hG hH; obtain ⟨n, rfl⟩ := hG; go_simp; first | done | with_reducible rfl) ?_
                simp only [Act.put, List.setIfInBounds_toArray, List.set_cons_zero, List.set_cons_succ]
                refine rv_det (by kernel_rfl) rfl (by intro w hG hH; obtain ⟨n, rfl⟩ := hG; go_simp; first | done | with_reducible rfl) ?_
                simp only [Act.put, List.setIfInBounds_toArray, List.set_cons_zero, List.set_cons_succ]
                refine rv_det (by kernel_rfl) rfl (by intro w hG hH; obtain ⟨n, rfl⟩ := hG; go_simp; first | done | with_reducible rfl) ?_
                simp only [Act.put, List.setIfInBounds_toArray, List.set_cons_zero, List.set_cons_succ]
                refine rv_det (by kernel_rfl) rfl (by intro w hG hH; obtain ⟨n, rfl⟩ := hG; go_simp; first | done | with_reducible rfl) ?_
                simp only [Act.put, List.setIfInBounds_toArray, List.set_cons_zero, List.set_cons_succ]
                refine rv_det (by kernel_rfl) rfl (by intro w hG hH; obtain ⟨n, rfl⟩ := hG; go_simp; first | done | with_reducible rfl) ?_
                simp only [Act.put, List.setIfInBounds_toArray, List.set_cons_zero, List.set_cons_succ]
                refine rv_rel (by kernel_rfl) rfl ⟨_, rfl⟩ (by
                  intro w hG hH; obtain ⟨n, rfl⟩ := hG
                  refine opVal_call (by go_simp; first | done | exact ⟨⟨rfl, rfl⟩, rfl⟩) ?_
                  refine (Ha.out _).mono ?_
                  rintro e w' ⟨rfl, hq⟩
                  exact ⟨_, rfl, rfl, by (first | (obtain ⟨nq, rfl⟩ := hq) | subst hq); (try simp only [drew_eq1, drewN_drewN]); first | exact ⟨0, rfl⟩ | exact ⟨_, rfl⟩ | exact gq_le (by omega), trivial⟩) ?_
                rintro v rfl
                simp only [Act.put, List.setIfInBounds_toArray, List.set_cons_zero, List.set_cons_succ]
                refine rv_det (by kernel_rfl) rfl (by intro w hG hH; obtain ⟨n, rfl⟩ := hG; go_simp; first | done | with_reducible rfl) ?_
                simp only [Act.put, List.setIfInBounds_toArray, List.set_cons_zero, List.set_cons_succ]
                refine rv_det (by kernel_rfl) rfl (by intro w hG hH; obtain ⟨n, rfl⟩ := hG; go_simp; first | done | with_reducible rfl) ?_
                simp only [Act.put, List.setIfInBounds_toArray, List.set_cons_zero, List.set_cons_succ]
                refine rv_det (by kernel_rfl) rfl (by intro w hG hH; obtain ⟨n, rfl⟩ := hG; go_simp; first | done | with_reducible rfl) ?_
                simp only [Act.put, List.setIfInBounds_toArray, List.set_cons_zero, List.set_cons_succ]
                refine rv_det (by kernel_rfl) rfl (by intro w hG hH; obtain ⟨n, rfl⟩ := hG; go_simp; first | done | with_reducible rfl) ?_
                simp only [Act.put, List.setIfInBounds_toArray, List.set_cons_zero, List.set_cons_succ]
                refine rv_det (by kernel_rfl) rfl (by intro w hG hH; obtain ⟨n, rfl⟩ := hG; go_simp; first | done | with_reducible rfl) ?_
                simp only [Act.put, List.setIfInBounds_toArray, List.set_cons_zero, List.set_cons_succ]
                refine rv_nil (fun w hG hH => ?_)
                obtain ⟨n, rfl⟩ := hG
                clear hH
                go_wp2
                go_ret3
                exact ⟨ret_eq Hr.out, _, drewN_drewN _ _ _⟩
            · have hnot : ¬ inBlk x k l := fun h => by have := h.2; rw [← hA] at this; exact hin this
              have hr' : Hid (∀ n, n < l + 1 → ¬ inBlk x k n) := Lib.hid fun n hn => by
                by_cases e : n = l
                · subst e; exact hnot
                · exact hr.out n (by omega)
              clear hA hnot hr
              obtain rfl | rfl | rfl | rfl | rfl : k = 0 ∨ k = 1 ∨ k = 2 ∨ k = 3 ∨ k = 4 := by omega
              all_goals
                simp only [Nat.reducePow] at hin hwr
                push_cast at hwr
                have d2 := decide_eq_false hin
                push_cast at d2
                go_wp2_with fail
                refine wp_region_rv 15 GQ (kindV [(3, fun v => v = .int .i64 (A : Nat)), (9, fun v => v = .int .i64 (A : Nat))]) (by kernel_rfl) (by kernel_rfl) GQ.trans GQ.refl (GQ.start _) (kindV_mono _) ?_
                simp only [List.take_succ_cons, List.take_zero, List.drop_succ_cons, List.drop_zero]
                refine rv_det (by kernel_rfl) rfl (by intro w hG hH; obtain ⟨n, rfl⟩ := hG; go_simp; first | done | with_reducible rfl) ?_
                simp only [Act.put, List.setIfInBounds_toArray, List.set_cons_zero, List.set_cons_succ]
                refine rv_det (by kernel_rfl) rfl (by intro w hG hH; obtain ⟨n, rfl⟩ := hG; go_simp; first | done | with_reducible rfl) ?_
                simp only [Act.put, List.setIfInBounds_toArray, List.set_cons_zero, List.set_cons_succ]
                refine rv_det (by kernel_rfl) rfl (by intro w hG hH; obtain ⟨n, rfl⟩ := hG; go_simp; first | done | with_reducible rfl) ?_
                simp only [Act.put, List.setIfInBounds_toArray, List.set_cons_zero, List.set_cons_succ]
                refine rv_rel (by kernel_rfl) rfl ⟨_, rfl⟩ (by
                  intro w hG hH; obtain ⟨n, rfl⟩ := hG
                  refine opVal_call (by go_simp; first | done | exact ⟨⟨rfl, rfl⟩, rfl⟩) ?_
                  refine (Ha.out _).mono ?_
                  rintro e w' ⟨rfl, hq⟩
                  exact ⟨_, rfl, rfl, by (first | (obtain ⟨nq, rfl⟩ := hq) | subst hq); (try simp only [drew_eq1, drewN_drewN]); first | exact ⟨0, rfl⟩ | exact ⟨_, rfl⟩ | exact gq_le (by omega), trivial⟩) ?_
                rintro v rfl
                simp only [Act.put, List.setIfInBounds_toArray, List.set_cons_zero, List.set_cons_succ]
                refine rv_det (by kernel_rfl) rfl (by intro w hG hH; obtain ⟨n, rfl⟩ := hG; go_simp; first | done | with_reducible rfl) ?_
                simp only [Act.put, List.setIfInBounds_toArray, List.set_cons_zero, List.set_cons_succ]
                refine rv_det (by kernel_rfl) rfl (by intro w hG hH; obtain ⟨n, rfl⟩ := hG; go_simp; first | done | with_reducible rfl) ?_
                simp only [Act.put, List.setIfInBounds_toArray, List.set_cons_zero, List.set_cons_succ]
                refine rv_det (by kernel_rfl) rfl (by intro w hG hH; obtain ⟨n, rfl⟩ := hG; go_simp; first | done | with_reducible rfl) ?_
                simp only [Act.put, List.setIfInBounds_toArray, List.set_cons_zero, List.set_cons_succ]
                refine rv_det (by kernel_rfl) rfl (by intro w hG hH; obtain ⟨n, rfl⟩ := hG; go_simp; first | done | with_reducible rfl) ?_
                simp only [Act.put, List.setIfInBounds_toArray, List.set_cons_zero, List.set_cons_succ]
                refine rv_det (by kernel_rfl) rfl (by intro w hG hH; obtain ⟨n, rfl⟩ := hG; go_simp; first | done | with_reducible rfl) ?_
                simp only [Act.put, List.setIfInBounds_toArray, List.set_cons_zero, List.set_cons_succ]
                refine rv_rel (by kernel_rfl) rfl ⟨_, rfl⟩ (by
                  intro w hG hH; obtain ⟨n, rfl⟩ := hG
                  refine opVal_call (by go_simp; first | done | exact ⟨⟨rfl, rfl⟩, rfl⟩) ?_
                  refine (Ha.out _).mono ?_
                  rintro e w' ⟨rfl, hq⟩
                  exact ⟨_, rfl, rfl, by (first | (obtain ⟨nq, rfl⟩ := hq) | subst hq); (try simp only [drew_eq1, drewN_drewN]); first | exact ⟨0, rfl⟩ | exact ⟨_, rfl⟩ | exact gq_le (by omega), trivial⟩) ?_
                rintro v rfl
                simp only [Act.put, List.setIfInBounds_toArray, List.set_cons_zero, List.set_cons_succ]
                refine rv_det (by kernel_rfl) rfl (by intro w hG hH; obtain ⟨n, rfl⟩ := hG; go_simp; first | done | with_reducible rfl) ?_
                simp only [Act.put, List.setIfInBounds_toArray, List.set_cons_zero, List.set_cons_succ]
                refine rv_det (by kernel_rfl) rfl (by intro w hG hH; obtain ⟨n, rfl⟩ := hG; go_simp; first | done | with_reducible rfl) ?_
                simp only [Act.put, List.setIfInBounds_toArray, List.set_cons_zero, List.set_cons_succ]
                refine rv_det (by kernel_rfl) rfl (by intro w hG hH; obtain ⟨n, rfl⟩ := hG; go_simp; first | done | with_reducible rfl) ?_
                simp only [Act.put, List.setIfInBounds_toArray, List.set_cons_zero, List.set_cons_succ]
                refine rv_det (by kernel_rfl) rfl (by intro w hG hH; obtain ⟨n, rfl⟩ := hG; go_simp; first | done | with_reducible rfl) ?_
                simp only [Act.put, List.setIfInBounds_toArray, List.set_cons_zero, List.set_cons_succ]
                refine rv_det (by kernel_rfl) rfl (by intro w hG hH; obtain ⟨n, rfl⟩ := hG; go_simp; first | done | with_reducible rfl) ?_
                simp only [Act.put, List.setIfInBounds_toArray, List.set_cons_zero, List.set_cons_succ]
                refine rv_nil (fun w hG hH => ?_)
                obtain ⟨n, rfl⟩ := hG
                clear hH
                go_wp2
                go_roundw
                case rel =>
                  repeat apply Exists.intro
                  exact ⟨⟨l + 1, by omega, by go_num, hr', _, rfl⟩, rfl⟩
                case measure => simp [intOf]; omega
        · obtain rfl : l = 12 := by omega
          have hs' : Hid (∀ c, c < k + 1 → ∀ n, n < 12 → ¬ inBlk x c n) := Lib.hid fun c hc n hn => by
            by_cases e : c = k
            · subst e; exact hr.out n hn
            · exact hs.out c (by omega) n hn
          go_wp2
          go_roundw
          case rel => exact ⟨k + 1, by omega, by go_num, hs', _, rfl⟩
          case measure => simp [intOf]; omega
    · obtain rfl : k = 5 := by omega
      have hres : clsRes x = .tuple #[.int .i64 0, .int .i64 0, .bool false] := by
        unfold clsRes
        rw [wblk_no hs.out]
      have Hr := Lib.hid hres
      clear hres hs
      go_wp2
      go_ret3
      exact ⟨ret_eq Hr.out, _, rfl⟩
end Go.Proofs.Ytnfoabccbkedgaa

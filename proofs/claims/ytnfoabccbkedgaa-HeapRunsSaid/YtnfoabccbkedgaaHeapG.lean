/- The walks of heap.Same, Heap.arena, Count, Most, Base. -/
import Derived.Test.YtnfoabccbkedgaaHeapF
namespace Go.Proofs.Ytnfoabccbkedgaa
open Go.RowKit

theorem mk_inj {f g : Nat → Bool} : mk f = mk g ↔ ∀ i, i < 12 → f i = g i := by
  constructor
  · intro h i hi
    have h2 : msk f 12 = msk g 12 := by unfold mk at h; omega
    have := congrArg (fun x => x.testBit i) h2
    simpa [msk_bit, hi] using this
  · intro h
    have h2 : msk f 12 = msk g 12 := by
      apply Nat.eq_of_testBit_eq; intro j
      rw [msk_bit, msk_bit]
      by_cases hj : j < 12
      · simp [hj, h j hj]
      · simp [hj]
    unfold mk; rw [h2]
def HS.eqc (s t : HS) (c : Nat) : Bool := (List.range 12).all fun i => s.T c i == t.T c i
def HS.same (s t : HS) : Bool := (List.range 5).all fun c => s.eqc t c
theorem eqc_iff {s t : HS} {c : Nat} : s.eqc t c = true ↔ ∀ i, i < 12 → s.T c i = t.T c i := by unfold HS.eqc; simp
theorem same_iff {s t : HS} : s.same t = true ↔ ∀ c, c < 5 → s.eqc t c = true := by unfold HS.same; simp
theorem mk_ne (s t : HS) (c : Nat) : (mk (s.T c) != mk (t.T c)) = !(s.eqc t c) := by
  cases hq : s.eqc t c with
  | true => rw [mk_inj.2 (eqc_iff.1 hq)]; simp
  | false =>
    have h2 : ¬ mk (s.T c) = mk (t.T c) := fun x => by rw [eqc_iff.2 (mk_inj.1 x)] at hq; cases hq
    simp [h2]

set_option maxRecDepth 100000 in
set_option maxHeartbeats 2000000 in
theorem same_any (a b : Nat) (s t : HS) (w : World) (ha : IH w a s) (hb : IH w b t) :
    Calls Try.prog 16 #[.pointer (some ⟨a,0,none⟩), .pointer (some ⟨b,0,none⟩)] w fun e w' => e = .returned (.bool (s.same t)) ∧ ∃ n, w' = w.drewN n := by
  have a0 := ha.c0
  have b0 := hb.c0
  have hA := fun c (hc : c < 5) => cellT ha hc
  have hB := fun c (hc : c < 5) => cellT hb hc
  have HA := Lib.hid hA
  have HB := Lib.hid hB
  clear ha hb hA hB
  go_enter Try.func16, Try.ntmps16
  go_wp2_with fail
  refine (is_any _ true _ (by assumption)).mono ?_
  rintro e w' ⟨rfl, rfl⟩
  go_wp2_with fail
  refine (is_any _ true _ (by assumption)).mono ?_
  rintro e w' ⟨rfl, rfl⟩
  go_wp2_with fail
  go_loopw [14] (fun c wr => ∃ k : Nat, k ≤ 5 ∧ c = .int .i64 k ∧ Hid (∀ j, j < k → s.eqc t j = true) ∧ ∃ n, wr = w.drewN n) (fun c _ => 5 - (intOf c).toNat)
  case atStart => exact ⟨0, by omega, rfl, (fun j hj => by omega), 0, rfl⟩
  case round =>
    obtain ⟨k, hk, rfl, hs, n, rfl⟩ := hrel
    by_cases hlt : k < 5
    · have ck := HA.out k hlt
      have dk := HB.out k hlt
      have hne := mk_ne s t k
      obtain ⟨f, hf⟩ : ∃ f, f = s.T k := ⟨_, rfl⟩
      obtain ⟨g, hg⟩ : ∃ f, f = t.T k := ⟨_, rfl⟩
      rw [← hf] at ck hne
      rw [← hg] at dk hne
      clear hf hg
      cases hq : s.eqc t k
      · have hfin : s.same t = false := by
          cases hx : s.same t with
          | false => rfl
          | true => rw [same_iff.1 hx k hlt] at hq; cases hq
        have Hf := Lib.hid hfin
        rw [hq, Bool.not_false] at hne
        clear hfin hq
        obtain rfl | rfl | rfl | rfl | rfl : k = 0 ∨ k = 1 ∨ k = 2 ∨ k = 3 ∨ k = 4 := by omega
        all_goals
          simp only [Nat.reduceMul, Nat.reduceAdd] at ck dk
          go_wp2_with fail
          refine wp_region_text 15 GQ (kindV []) (by kernel_rfl) (by kernel_rfl) GQ.trans GQ.refl (GQ.start _) (kindV_mono _) ?_
          simp only [List.take_succ_cons, List.take_zero, List.drop_succ_cons, List.drop_zero]
          repeat (first | (refine rvc_det rfl rfl (by intro w hG hH; obtain ⟨n, rfl⟩ := hG; go_simp; first | done | with_reducible rfl) ?_; simp only [Act.put, List.setIfInBounds_toArray, List.set_cons_zero, List.set_cons_succ]) | (refine rvc_skip rfl ?_; simp only [Act.put, List.setIfInBounds_toArray, List.set_cons_zero, List.set_cons_succ]))
          refine rvc_nil (fun w hG hH => ?_)
          obtain ⟨n, rfl⟩ := hG
          clear hH
          go_wp2
          go_ret
          exact ⟨ret_eq (by rw [Hf.out]; rfl), _, drewN_drewN _ _ _⟩
      · have hs' : Hid (∀ j, j < k + 1 → s.eqc t j = true) := fun j hj => by
          rcases Nat.lt_or_ge j k with h' | h'
          · exact hs.out j h'
          · obtain rfl : j = k := by omega
            exact hq
        rw [hq, Bool.not_true] at hne
        clear hq hs
        obtain rfl | rfl | rfl | rfl | rfl : k = 0 ∨ k = 1 ∨ k = 2 ∨ k = 3 ∨ k = 4 := by omega
        all_goals
          simp only [Nat.reduceMul, Nat.reduceAdd] at ck dk
          go_wp2_with fail
          refine wp_region_text 15 GQ (kindV []) (by kernel_rfl) (by kernel_rfl) GQ.trans GQ.refl (GQ.start _) (kindV_mono _) ?_
          simp only [List.take_succ_cons, List.take_zero, List.drop_succ_cons, List.drop_zero]
          repeat (first | (refine rvc_det rfl rfl (by intro w hG hH; obtain ⟨n, rfl⟩ := hG; go_simp; first | done | with_reducible rfl) ?_; simp only [Act.put, List.setIfInBounds_toArray, List.set_cons_zero, List.set_cons_succ]) | (refine rvc_skip rfl ?_; simp only [Act.put, List.setIfInBounds_toArray, List.set_cons_zero, List.set_cons_succ]))
          refine rvc_nil (fun w hG hH => ?_)
          obtain ⟨n, rfl⟩ := hG
          clear hH
          go_wp2
          go_roundw
          case rel => exact ⟨_, by omega, by go_num, hs', _, rfl⟩
          case measure => simp [intOf]
    · obtain rfl : k = 5 := by omega
      have hfin : s.same t = true := same_iff.2 hs.out
      have Hf := Lib.hid hfin
      clear hfin hs
      go_wp2
      go_ret
      exact ⟨ret_eq (by rw [Hf.out]; rfl), _, rfl⟩

set_option maxHeartbeats 1000000 in
theorem arena_arg (b : Nat) (c : Int) (hc : c < 0 ∨ 5 ≤ c) (w : World) (h : w.cell? ⟨b, 0, none⟩ = some (.bool true)) :
    Calls Try.prog 34 #[.pointer (some ⟨b,0,none⟩), .int .i64 c] w fun e w' => e = .returned (.tuple #[.agg #[.int .u16 0, .int .i64 0], .int .i64 2]) ∧ KB (fun _ => False) w w' := by
  have hc' : decide (c < 0) = true ∨ (decide (c < 0) = false ∧ decide (5 ≤ c) = true) := by
    rcases hc with hc | hc
    · left; simpa using hc
    · right; exact ⟨by simp; omega, by simpa using hc⟩
  have h0 : (w.alloc (.cells #[.int .u16 0, .int .i64 0] 58)).cell? ⟨b, 0, none⟩ = some (.bool true) := ((KB.refl (fun _ => False) w).alloc _).cell (p := ⟨b, 0, none⟩) (fun x => x) h
  clear hc
  rcases hc' with h1 | ⟨h1, h2⟩
  all_goals
    go_enter Try.func34, Try.ntmps34
    go_wp2_with fail
    refine (is_any _ true _ (by assumption)).mono ?_
    rintro e w' ⟨rfl, rfl⟩
    go_wp2
    refine bodyPost_ret (v := .tuple #[.agg #[.int .u16 0, .int .i64 0], .int .i64 2]) (by simp [results, Try.results34, go_sem]) rfl ⟨rfl, ?_⟩
    repeat (first | exact KB.refl _ _ | assumption | refine KB.drewN ?_ _ | refine KB.drew ?_ | refine KB.alloc ?_ _ | (refine KB.setCell ?_ (fun h => (by first | (simp at h; done) | (simp at h; omega) | (exfalso; simp at h; omega) | exact rfl)) _))

set_option maxHeartbeats 1000000 in
theorem arena_yes (b : Nat) (s : HS) (c : Nat) (hc : c < 5) (w : World) (h : IH w b s) :
    Calls Try.prog 34 #[.pointer (some ⟨b,0,none⟩), .int .i64 c] w fun e w' => e = .returned (.tuple #[.agg #[.int .u16 (mk (s.T c)), .int .i64 (s.M c)], .int .i64 0]) ∧ KB (fun _ => False) w w' := by
  have hk := ((KB.refl (fun _ => False) w).alloc (.cells #[.int .u16 0, .int .i64 0] 58))
  have c0 := hk.cell (p := ⟨b, 0, none⟩) (fun x => x) h.c0
  have cT := hk.cell (p := ⟨b, 1 + 2 * c, none⟩) (fun x => x) (cellT h hc)
  have cM := hk.cell (p := ⟨b, 2 + 2 * c, none⟩) (fun x => x) (cellM h hc)
  obtain ⟨f, hf⟩ : ∃ f, f = s.T c := ⟨_, rfl⟩
  obtain ⟨m, hm⟩ : ∃ f, f = s.M c := ⟨_, rfl⟩
  rw [← hf] at cT ⊢
  rw [← hm] at cM ⊢
  clear hf hm h hk
  obtain rfl | rfl | rfl | rfl | rfl : c = 0 ∨ c = 1 ∨ c = 2 ∨ c = 3 ∨ c = 4 := by omega
  all_goals
    simp only [Nat.reduceMul, Nat.reduceAdd] at cT cM
    go_enter Try.func34, Try.ntmps34
    go_wp2_with fail
    refine (is_any _ true _ (by assumption)).mono ?_
    rintro e w' ⟨rfl, rfl⟩
    go_wp2
    refine bodyPost_ret (v := .tuple #[.agg #[.int .u16 (mk f), .int .i64 m], .int .i64 0]) (by simp [results, Try.results34, go_sem]) rfl ⟨rfl, ?_⟩
    repeat (first | exact KB.refl _ _ | assumption | refine KB.drewN ?_ _ | refine KB.drew ?_ | refine KB.alloc ?_ _ | (refine KB.setCell ?_ (fun h => (by first | (simp at h; done) | (simp at h; omega) | (exfalso; simp at h; omega) | exact rfl)) _))

set_option maxHeartbeats 1000000 in
theorem hcount_arg (b : Nat) (c : Int) (hc : c < 0 ∨ 5 ≤ c) (w : World) (h : w.cell? ⟨b, 0, none⟩ = some (.bool true)) :
    Calls Try.prog 22 #[.pointer (some ⟨b,0,none⟩), .int .i64 c] w fun e w' => e = .returned (.tuple #[.int .i64 0, .int .i64 2]) ∧ KB (fun _ => False) w w' := by
  have Ha := Lib.hid (arena_arg b c hc w h)
  have e0 : (0 : Int) = mk (fun _ => false) := rfl
  go_enter Try.func22, Try.ntmps22
  go_wp2_with fail
  refine Ha.out.mono ?_
  rintro e w1 ⟨rfl, hk⟩
  go_wp2_with fail
  refine (count_any _ _ (fun _ => false) _ (by rw [← e0]; go_simp)).mono ?_
  rintro e w' ⟨rfl, n, rfl⟩
  go_wp2
  go_ret2
  refine ⟨rfl, ?_⟩
  repeat (first | exact KB.refl _ _ | assumption | refine KB.drewN ?_ _ | refine KB.drew ?_ | refine KB.alloc ?_ _ | (refine KB.setCell ?_ (fun h => (by first | (simp at h; done) | (simp at h; omega) | (exfalso; simp at h; omega) | exact rfl)) _))
theorem hcount_yes (b : Nat) (s : HS) (c : Nat) (hc : c < 5) (w : World) (h : IH w b s) :
    Calls Try.prog 22 #[.pointer (some ⟨b,0,none⟩), .int .i64 c] w fun e w' => e = .returned (.tuple #[.int .i64 (cnt (s.T c) : Nat), .int .i64 0]) ∧ KB (fun _ => False) w w' := by
  have Ha := Lib.hid (arena_yes b s c hc w h)
  go_enter Try.func22, Try.ntmps22
  go_wp2_with fail
  refine Ha.out.mono ?_
  rintro e w1 ⟨rfl, hk⟩
  go_wp2_with fail
  refine (count_any _ _ (s.T c) _ (by go_simp)).mono ?_
  rintro e w' ⟨rfl, n, rfl⟩
  go_wp2
  go_ret2
  refine ⟨rfl, ?_⟩
  repeat (first | exact KB.refl _ _ | assumption | refine KB.drewN ?_ _ | refine KB.drew ?_ | refine KB.alloc ?_ _ | (refine KB.setCell ?_ (fun h => (by first | (simp at h; done) | (simp at h; omega) | (exfalso; simp at h; omega) | exact rfl)) _))
theorem hmost_arg (b : Nat) (c : Int) (hc : c < 0 ∨ 5 ≤ c) (w : World) (h : w.cell? ⟨b, 0, none⟩ = some (.bool true)) :
    Calls Try.prog 23 #[.pointer (some ⟨b,0,none⟩), .int .i64 c] w fun e w' => e = .returned (.tuple #[.int .i64 0, .int .i64 2]) ∧ KB (fun _ => False) w w' := by
  have Ha := Lib.hid (arena_arg b c hc w h)
  go_enter Try.func23, Try.ntmps23
  go_wp2_with fail
  refine Ha.out.mono ?_
  rintro e w1 ⟨rfl, hk⟩
  go_wp2
  go_ret2
  refine ⟨rfl, ?_⟩
  repeat (first | exact KB.refl _ _ | assumption | refine KB.drewN ?_ _ | refine KB.drew ?_ | refine KB.alloc ?_ _ | (refine KB.setCell ?_ (fun h => (by first | (simp at h; done) | (simp at h; omega) | (exfalso; simp at h; omega) | exact rfl)) _))
theorem hmost_yes (b : Nat) (s : HS) (c : Nat) (hc : c < 5) (w : World) (h : IH w b s) :
    Calls Try.prog 23 #[.pointer (some ⟨b,0,none⟩), .int .i64 c] w fun e w' => e = .returned (.tuple #[.int .i64 (s.M c), .int .i64 0]) ∧ KB (fun _ => False) w w' := by
  have Ha := Lib.hid (arena_yes b s c hc w h)
  go_enter Try.func23, Try.ntmps23
  go_wp2_with fail
  refine Ha.out.mono ?_
  rintro e w1 ⟨rfl, hk⟩
  go_wp2
  go_ret2
  refine ⟨rfl, ?_⟩
  repeat (first | exact KB.refl _ _ | assumption | refine KB.drewN ?_ _ | refine KB.drew ?_ | refine KB.alloc ?_ _ | (refine KB.setCell ?_ (fun h => (by first | (simp at h; done) | (simp at h; omega) | (exfalso; simp at h; omega) | exact rfl)) _))
end Go.Proofs.Ytnfoabccbkedgaa

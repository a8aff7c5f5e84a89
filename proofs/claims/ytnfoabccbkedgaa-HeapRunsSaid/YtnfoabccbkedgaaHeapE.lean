/- The walks of heap.block, Heap.Taken, Heap.Give. -/
import Derived.Test.YtnfoabccbkedgaaHeapD
namespace Go.Proofs.Ytnfoabccbkedgaa
open Go.RowKit

set_option maxRecDepth 100000 in
theorem wcls_all : ∀ a, a < 373 → 1 ≤ a → wcls a < 5 ∧ hb (wcls a) ≤ a ∧ a < hb (wcls a + 1) ∧ ((a - hb (wcls a)) % 2 ^ (wcls a) = 0 → (a - hb (wcls a)) / 2 ^ (wcls a) < 12 ∧ a = hb (wcls a) + (a - hb (wcls a)) / 2 ^ (wcls a) * 2 ^ (wcls a)) := by decide +kernel
theorem wcls_spec {a : Nat} (h1 : 1 ≤ a) (h2 : a ≤ 372) : wcls a < 5 ∧ hb (wcls a) ≤ a ∧ a < hb (wcls a + 1) := by
  obtain ⟨h3, h4, h5, _⟩ := wcls_all a (by omega) h1
  exact ⟨h3, h4, h5⟩
theorem hblk_some {x : Int} {c n : Nat} (h : hblk x = some (c, n)) : c < 5 ∧ n < 12 ∧ x = ((hb c + n * 2 ^ c : Nat) : Int) := by
  unfold hblk at h
  split at h
  · cases h
  · rename_i hr
    split at h
    · rename_i hm
      obtain ⟨h1, _, _, h2⟩ := wcls_all x.toNat (by omega) (by omega)
      obtain ⟨h3, h4⟩ := h2 hm
      simp only [Option.some.injEq, Prod.mk.injEq] at h
      obtain ⟨rfl, rfl⟩ := h
      exact ⟨h1, h3, by rw [← h4]; omega⟩
    · cases h
set_option maxRecDepth 100000 in
theorem hblk_addr {c n : Nat} (hc : c < 5) (hn : n < 12) : hblk ((hb c + n * 2 ^ c : Nat) : Int) = some (c, n) := by
  have : ∀ c, c < 5 → ∀ n, n < 12 → hblk ((hb c + n * 2 ^ c : Nat) : Int) = some (c, n) := by decide +kernel
  exact this c hc n hn
theorem hblk_in {a : Nat} (h1 : 1 ≤ a) (h2 : a ≤ 372) : hblk (a : Int) = if (a - hb (wcls a)) % 2 ^ (wcls a) = 0 then some (wcls a, (a - hb (wcls a)) / 2 ^ (wcls a)) else none := by
  unfold hblk
  rw [if_neg (by omega)]
  rfl

def BlkNo (w : World) (e : Ending) (w' : World) : Prop := ∃ p q : Int, e = .returned (.tuple #[.int .i64 p, .int .i64 q, .bool false]) ∧ ∃ n, w' = w.drewN n

set_option maxRecDepth 100000 in
set_option maxHeartbeats 1000000 in
theorem block_out (x : Int) (hx : x < 1 ∨ 372 < x) (w : World) : Calls Try.prog 31 #[.int .i64 x] w (BlkNo w) := by
  obtain ⟨y, hy⟩ : ∃ y, IntKind.i64.wrap (x - 1) = y := ⟨_, rfl⟩
  have hbase := fun w => base_any 0 (by omega) w
  rw [hb_vals.1] at hbase
  have Hbase := Lib.hid hbase
  clear hbase
  go_enter Try.func31, Try.ntmps31
  go_wp2_with fail
  refine (class_no x hx _).mono ?_
  rintro e w' ⟨rfl, rfl⟩
  go_wp2_with fail
  refine wp_region_text 16 GQ (kindV [(3, fun v => v = .int .i64 1)]) (by kernel_rfl) (by kernel_rfl) GQ.trans GQ.refl (GQ.start _) (kindV_mono _) ?_
  simp only [List.take_succ_cons, List.take_zero, List.drop_succ_cons, List.drop_zero]
  repeat (first | (refine rvc_det rfl rfl (by intro w hG hH; obtain ⟨n, rfl⟩ := hG; go_simp; first | done | with_reducible rfl) ?_; simp only [Act.put, List.setIfInBounds_toArray, List.set_cons_zero, List.set_cons_succ]) | (refine rvc_skip rfl ?_; simp only [Act.put, List.setIfInBounds_toArray, List.set_cons_zero, List.set_cons_succ]))
  refine rvc_rel rfl rfl ⟨_, rfl⟩ (by
    intro w hG hH; obtain ⟨n, rfl⟩ := hG
    refine opVal_call (by go_simp; first | done | exact ⟨⟨rfl, rfl⟩, rfl⟩) ?_
    refine (Hbase.out _).mono ?_
    rintro e w' ⟨rfl, hq⟩
    exact ⟨_, rfl, rfl, by (first | (obtain ⟨nq, rfl⟩ := hq) | subst hq); (try simp only [drew_eq1, drewN_drewN]); first | exact ⟨0, rfl⟩ | exact ⟨_, rfl⟩ | exact gq_le (by omega), trivial⟩) ?_
  rintro v rfl
  simp only [Act.put, List.setIfInBounds_toArray, List.set_cons_zero, List.set_cons_succ]
  repeat (first | (refine rvc_det rfl rfl (by intro w hG hH; obtain ⟨n, rfl⟩ := hG; go_simp; first | done | with_reducible rfl) ?_; simp only [Act.put, List.setIfInBounds_toArray, List.set_cons_zero, List.set_cons_succ]) | (refine rvc_skip rfl ?_; simp only [Act.put, List.setIfInBounds_toArray, List.set_cons_zero, List.set_cons_succ]))
  refine rvc_nil (fun w hG hH => ?_)
  obtain ⟨n, rfl⟩ := hG
  clear hH
  go_wp2
  go_ret3
  exact ⟨_, _, rfl, _, rfl⟩

set_option maxRecDepth 100000 in
set_option maxHeartbeats 1000000 in
theorem block_in (a k : Nat) (hk : k < 5) (h1 : hb k ≤ a) (h2 : a < hb (k + 1)) (w : World) :
    Calls Try.prog 31 #[.int .i64 a] w (fun e w' => e = .returned (.tuple #[.int .i64 k, .int .i64 ((a - hb k) / 2 ^ k : Nat), .bool (decide ((a - hb k) % 2 ^ k = 0))]) ∧ ∃ n, w' = w.drewN n) := by
  have ha2 : a ≤ 372 := by
    obtain ⟨v0, v1, v2, v3, v4, v5⟩ := hb_vals
    obtain rfl | rfl | rfl | rfl | rfl : k = 0 ∨ k = 1 ∨ k = 2 ∨ k = 3 ∨ k = 4 := by omega
    all_goals simp only [v0, v1, v2, v3, v4, v5, Nat.reduceAdd] at h1 h2; omega
  have hcl := class_yes a k hk h1 h2
  obtain ⟨B, hB⟩ : ∃ B, B = hb k := ⟨_, rfl⟩
  have hbase := fun w => base_any k (by omega) w
  rw [← hB] at hbase hcl h1 ⊢
  obtain ⟨D, hD⟩ : ∃ D : Nat, D = a - B := ⟨_, rfl⟩
  rw [← hD] at hcl ⊢
  obtain ⟨Fr, hF⟩ : ∃ Fr : Nat, Fr = a - D % 2 ^ k := ⟨_, rfl⟩
  rw [← hF] at hcl
  have hDw : IntKind.i64.wrap ((a : Int) - B) = D := by rw [w64 (by omega) (by omega)]; omega
  have hmod : D % 2 ^ k ≤ D := Nat.mod_le _ _
  have hcmp : ((Fr : Int) == (a : Int)) = decide (D % 2 ^ k = 0) := by
    rw [Bool.eq_iff_iff]; simp; omega
  have Hcl := Lib.hid hcl
  have Hbase := Lib.hid hbase
  have Hc := Lib.hid hcmp
  clear hcl hbase hB hF h1 h2 hcmp hmod
  cases hb : decide (D % 2 ^ k = 0)
  all_goals
    have hcb : ((Fr : Int) == (a : Int)) = _ := Hc.out.trans hb
    clear hb
    obtain rfl | rfl | rfl | rfl | rfl : k = 0 ∨ k = 1 ∨ k = 2 ∨ k = 3 ∨ k = 4 := by omega
    all_goals
      go_enter Try.func31, Try.ntmps31
      go_wp2_with fail
      refine (Hcl.out _).mono ?_
      rintro e w' ⟨rfl, n, rfl⟩
      go_wp2_with fail
      refine wp_region_text 16 GQ (kindV [(3, fun v => v = .int .i64 (B : Nat))]) (by kernel_rfl) (by kernel_rfl) GQ.trans GQ.refl (GQ.start _) (kindV_mono _) ?_
      simp only [List.take_succ_cons, List.take_zero, List.drop_succ_cons, List.drop_zero]
      repeat (first | (refine rvc_det rfl rfl (by intro w hG hH; obtain ⟨n, rfl⟩ := hG; go_simp; first | done | with_reducible rfl) ?_; simp only [Act.put, List.setIfInBounds_toArray, List.set_cons_zero, List.set_cons_succ]) | (refine rvc_skip rfl ?_; simp only [Act.put, List.setIfInBounds_toArray, List.set_cons_zero, List.set_cons_succ]))
      refine rvc_rel rfl rfl ⟨_, rfl⟩ (by
        intro w hG hH; obtain ⟨n, rfl⟩ := hG
        refine opVal_call (by go_simp; first | done | exact ⟨⟨rfl, rfl⟩, rfl⟩) ?_
        refine (Hbase.out _).mono ?_
        rintro e w' ⟨rfl, hq⟩
        exact ⟨_, rfl, rfl, by (first | (obtain ⟨nq, rfl⟩ := hq) | subst hq); (try simp only [drew_eq1, drewN_drewN]); first | exact ⟨0, rfl⟩ | exact ⟨_, rfl⟩ | exact gq_le (by omega), trivial⟩) ?_
      rintro v rfl
      simp only [Act.put, List.setIfInBounds_toArray, List.set_cons_zero, List.set_cons_succ]
      repeat (first | (refine rvc_det rfl rfl (by intro w hG hH; obtain ⟨n, rfl⟩ := hG; go_simp; first | done | with_reducible rfl) ?_; simp only [Act.put, List.setIfInBounds_toArray, List.set_cons_zero, List.set_cons_succ]) | (refine rvc_skip rfl ?_; simp only [Act.put, List.setIfInBounds_toArray, List.set_cons_zero, List.set_cons_succ]))
      refine rvc_nil (fun w hG hH => ?_)
      obtain ⟨n, rfl⟩ := hG
      clear hH
      go_wp2
      go_ret3
      refine ⟨ret_eq (tup3 rfl (vint ?_) rfl), _, by simp only [drew_eq1, drewN_drewN]; rfl⟩
      first | omega | (subst hD; rfl) | (subst hD; simp)

theorem block_yes (c n : Nat) (x : Int) (h : hblk x = some (c, n)) (w : World) :
    Calls Try.prog 31 #[.int .i64 x] w (fun e w' => e = .returned (.tuple #[.int .i64 c, .int .i64 n, .bool true]) ∧ ∃ n, w' = w.drewN n) := by
  obtain ⟨hc, hn, hx⟩ := hblk_some h
  have h3 : hb c + n * 2 ^ c < hb (c + 1) := by
    have : ∀ c, c < 5 → ∀ n, n < 12 → hb c + n * 2 ^ c < hb (c + 1) := by decide
    exact this c hc n hn
  subst hx
  refine (block_in _ c hc (Nat.le_add_right _ _) h3 w).mono ?_
  rintro e w' ⟨rfl, hw⟩
  rw [Nat.add_sub_cancel_left, Nat.mul_mod_left, Nat.mul_div_cancel _ (Nat.pow_pos (by omega))]
  exact ⟨rfl, hw⟩
theorem block_no (x : Int) (h : hblk x = none) (w : World) : Calls Try.prog 31 #[.int .i64 x] w (BlkNo w) := by
  by_cases hx : x < 1 ∨ 372 < x
  · exact block_out x hx w
  · obtain ⟨a, rfl⟩ := Int.eq_ofNat_of_zero_le (show 0 ≤ x by omega)
    obtain ⟨h1, h2, h3⟩ := wcls_spec (a := a) (by omega) (by omega)
    rw [hblk_in (by omega) (by omega)] at h
    refine (block_in a _ h1 h2 h3 w).mono ?_
    rintro e w' ⟨rfl, hw⟩
    have hne : ¬ (a - hb (wcls a)) % 2 ^ wcls a = 0 := fun hz => by rw [if_pos hz] at h; cases h
    rw [decide_eq_false hne]
    exact ⟨_, _, rfl, hw⟩

/-! ### Heap.Taken, Heap.Give -/
theorem cellT {w : World} {b : Nat} {s : HS} (h : IH w b s) {c : Nat} (hc : c < 5) : w.cell? ⟨b, 1 + 2 * c, none⟩ = some (.int .u16 (mk (s.T c))) := by
  rw [h.cell]
  obtain rfl | rfl | rfl | rfl | rfl : c = 0 ∨ c = 1 ∨ c = 2 ∨ c = 3 ∨ c = 4 := by omega
  all_goals rfl
theorem cellM {w : World} {b : Nat} {s : HS} (h : IH w b s) {c : Nat} (hc : c < 5) : w.cell? ⟨b, 2 + 2 * c, none⟩ = some (.int .i64 (s.M c)) := by
  rw [h.cell]
  obtain rfl | rfl | rfl | rfl | rfl : c = 0 ∨ c = 1 ∨ c = 2 ∨ c = 3 ∨ c = 4 := by omega
  all_goals rfl

set_option maxRecDepth 100000 in
set_option maxHeartbeats 1000000 in
theorem taken_any (b : Nat) (s : HS) (x : Int) (w : World) (h : IH w b s) :
    Calls Try.prog 11 #[.pointer (some ⟨b,0,none⟩), .int .i64 x] w fun e w' =>
      e = .returned (.tuple #[.bool (s.taken x).1, .int .i64 (s.taken x).2]) ∧ ∃ n, w' = w.drewN n := by
  have c0 := h.c0
  cases hk : hblk x with
  | none =>
    have e1 : s.taken x = (false, 2) := by unfold HS.taken; rw [hk]
    rw [e1]
    have HK := Lib.hid hk
    clear hk h e1
    go_enter Try.func11, Try.ntmps11
    go_wp2_with fail
    refine (is_any _ true _ (by assumption)).mono ?_
    rintro e w' ⟨rfl, rfl⟩
    go_wp2_with fail
    refine (block_no x HK.out _).mono ?_
    rintro e w' ⟨p, q, rfl, n, rfl⟩
    go_wp2
    go_ret2
    exact ⟨rfl, _, rfl⟩
  | some p =>
    obtain ⟨c, n⟩ := p
    obtain ⟨hc, hn, hx⟩ := hblk_some hk
    have e1 : s.taken x = (s.T c n, 0) := by unfold HS.taken; rw [hk]
    rw [e1]
    have cT := cellT h hc
    obtain ⟨f, hf⟩ : ∃ f, f = s.T c := ⟨_, rfl⟩
    rw [← hf] at cT ⊢
    have hbit := mk_bit f n hn
    have hres : (bits BinOp.and IntKind.u16 (mk f / 2 ^ n) 1 == 1) = f n := by rw [hbit]; cases f n <;> rfl
    have hlt := mk_lt f
    have HK := Lib.hid hk
    clear hk h e1 hf hbit hx
    obtain rfl | rfl | rfl | rfl | rfl : c = 0 ∨ c = 1 ∨ c = 2 ∨ c = 3 ∨ c = 4 := by omega
    all_goals
      simp only [Nat.reduceMul, Nat.reduceAdd] at cT
      go_enter Try.func11, Try.ntmps11
      go_wp2_with fail
      refine (is_any _ true _ (by assumption)).mono ?_
      rintro e w' ⟨rfl, rfl⟩
      go_wp2_with fail
      refine (block_yes _ n x HK.out _).mono ?_
      rintro e w' ⟨rfl, m, rfl⟩
      go_wp2
      go_ret2
      exact ⟨rfl, _, rfl⟩

end Go.Proofs.Ytnfoabccbkedgaa

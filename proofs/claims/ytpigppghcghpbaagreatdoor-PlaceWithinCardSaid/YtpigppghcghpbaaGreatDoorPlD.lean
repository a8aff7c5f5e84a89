/- Places compared: slices.Equal and Compare of steps; place.Prefix, Order, Same. -/
import Derived.Test.YtpigppghcghpbaaGreatDoorMg04
import Derived.Test.YtpigppghcghpbaaGreatDoorPlC
import Derived.Test.YtpigppghcghpbaaGreatDoorShelfPl
import Derived.Test.YtpigppghcghpbaaGreatDoorRegSt
namespace Go.Proofs.YtpigppghcghpbaaGreatDoor
open Go.RowKit

theorem IntsAt.kbF {w w' : World} {a : Option Addr} {xs : List Int} (h : IntsAt w a xs) (hk : KB F0 w w') : IntsAt w' a xs := h.kb hk (fun _ _ _ x => x)
theorem intsAt_nil (w : World) (a : Option Addr) : IntsAt w a [] := fun k h => absurd h (Nat.not_lt_zero k)
/-- Lists alike as far as the first k. -/
theorem eq_step {xs ys : List Int} (hn : xs.length = ys.length) (h : ∀ i, i < xs.length → xs.getD i 0 = ys.getD i 0) : xs = ys := by
  apply List.ext_getElem hn
  intro i h1 h2
  have := h i h1
  rwa [List.getD_eq_getElem?_getD, List.getD_eq_getElem?_getD, List.getElem?_eq_getElem h1, List.getElem?_eq_getElem h2] at this
set_option maxRecDepth 100000 in
set_option maxHeartbeats 8000000 in
theorem seq_any (xs ys : List Int) (hl : xs.length ≤ 1000000) (a b : Option Addr) (c d : Nat) (w : World) (h1 : IntsAt w a xs) (h2 : IntsAt w b ys) :
    Calls Tryz.prog 41 #[.slice a xs.length c, .slice b ys.length d] w fun e w' => e = .returned (.bool (decide (xs = ys))) ∧ KB F0 w w' := by
  obtain ⟨w0, rfl⟩ : ∃ w0, w0 = w := ⟨_, rfl⟩
  obtain ⟨r, hr⟩ : ∃ r, r = decide (xs = ys) := ⟨_, rfl⟩
  rw [← hr]
  have Hr := Lib.hid hr
  clear hr
  by_cases hn : xs.length = ys.length
  · have Hs := Lib.hid (fun h => eq_step hn h)
    rw [← hn]
    obtain ⟨N, hN⟩ : ∃ N, N = xs.length := ⟨_, rfl⟩
    have HTS := Lib.hid (And.intro hN (And.intro hn (And.intro h1 h2)))
    rw [← hN] at hl ⊢
    clear hN hn h1 h2
    go_enter Tryz.func41, Tryz.ntmps41
    go_wp2_with fail
    go_loopw [13] (fun kv wr => ∃ k : Nat, k ≤ N ∧ kv = .int .i64 k ∧ KB F0 w0 wr ∧ Hid (∀ i, i < k → xs.getD i 0 = ys.getD i 0)) (fun kv _ => N - (intOf kv).toNat)
    case atStart => exact ⟨0, by omega, rfl, KB.refl _ _, Lib.hid (fun i hi => by omega)⟩
    case round =>
      obtain ⟨k, hk, rfl, hkb, hall⟩ := hrel
      have HK := Lib.hid hkb
      by_cases hlt : k < N
      · have d1 : decide ((k : Int) < (N : Int)) = true := decide_eq_true (by omega)
        have ik : (k : Int) < (N : Int) := by omega
        obtain ⟨b1, o1, rfl, hx0⟩ := HTS.out.2.2.1 k (by rw [← HTS.out.1]; exact hlt)
        obtain ⟨b2, o2, rfl, hy0⟩ := HTS.out.2.2.2 k (by rw [← HTS.out.2.1, ← HTS.out.1]; exact hlt)
        have hx := HK.out.cell (p := ⟨b1, o1 + k, none⟩) (fun x => x) hx0
        have hy := HK.out.cell (p := ⟨b2, o2 + k, none⟩) (fun x => x) hy0
        have Hx : Hid (∀ x y, x = xs.getD k 0 → y = ys.getD k 0 → x = y → ∀ i, i < k + 1 → xs.getD i 0 = ys.getD i 0) := Lib.hid (fun x y e1 e2 e i hi => by
          rcases Nat.lt_or_eq_of_le (Nat.lt_succ_iff.1 hi) with h' | rfl
          · exact hall.out i h'
          · rw [← e1, ← e2, e])
        have Hn : Hid (xs.getD k 0 ≠ ys.getD k 0 → r = false) := Lib.hid (fun h => by
          rw [Hr.out]
          exact decide_eq_false (fun e => h (by rw [e])))
        obtain ⟨x, hxe⟩ : ∃ x, x = xs.getD k 0 := ⟨_, rfl⟩
        obtain ⟨y, hye⟩ : ∃ y, y = ys.getD k 0 := ⟨_, rfl⟩
        rw [← hxe] at hx Hn
        rw [← hye] at hy Hn
        have HE := Lib.hid (And.intro hxe hye)
        clear hx0 hy0 hall hkb hxe hye
        by_cases hxy : x = y
        · have hall2 := Lib.hid (Hx.out x y HE.out.1 HE.out.2 hxy)
          subst hxy
          go_wp2_with fail
          refine wp_region_rv 9 GQ (kindV []) (by kernel_rfl) (by kernel_rfl) GQ.trans GQ.refl (GQ.start _) (kindV_mono _) ?_
          simp only [List.take_succ_cons, List.take_zero, List.drop_succ_cons, List.drop_zero]
          iterate 9 (refine rv_det (by kernel_rfl) rfl (by intro w hG hH; obtain ⟨n, rfl⟩ := hG; go_simp; first | done | with_reducible rfl) ?_; simp only [Act.put, List.setIfInBounds_toArray, List.set_cons_zero, List.set_cons_succ])
          refine rv_nil (fun w hG hH => ?_)
          obtain ⟨n, rfl⟩ := hG
          clear hH
          go_wp2_with fail
          refine ⟨⟨k + 1, by omega, by go_num, HK.out.drewN _, hall2⟩, by simp [intOf]; omega⟩
        · have hr2 : Hid (r = false) := Lib.hid (Hn.out hxy)
          have t1 : (x == y) = false := by simpa using hxy
          have t2 : (x != y) = true := by simpa using hxy
          clear hxy
          go_wp2_with fail
          refine wp_region_rv 9 GQ (kindV []) (by kernel_rfl) (by kernel_rfl) GQ.trans GQ.refl (GQ.start _) (kindV_mono _) ?_
          simp only [List.take_succ_cons, List.take_zero, List.drop_succ_cons, List.drop_zero]
          iterate 9 (refine rv_det (by kernel_rfl) rfl (by intro w hG hH; obtain ⟨n, rfl⟩ := hG; go_simp; first | done | with_reducible rfl) ?_; simp only [Act.put, List.setIfInBounds_toArray, List.set_cons_zero, List.set_cons_succ])
          refine rv_nil (fun w hG hH => ?_)
          obtain ⟨n, rfl⟩ := hG
          clear hH
          go_wp2_with fail
          go_ret
          exact ⟨ret_eq (by rw [hr2.out]; rfl), HK.out.drewN _⟩
      · obtain rfl : k = N := by omega
        have d1 : decide ((k : Int) < (k : Int)) = false := decide_eq_false (by omega)
        have hr2 : Hid (r = true) := Lib.hid (by rw [Hr.out]; exact decide_eq_true (Hs.out (by rw [← HTS.out.1]; exact hall.out)))
        clear hall hkb
        go_wp2_with fail
        go_ret
        exact ⟨ret_eq (by rw [hr2.out]; rfl), HK.out⟩
  · have hr2 : Hid (r = false) := Lib.hid (by rw [Hr.out]; exact decide_eq_false (fun e => hn (by rw [e])))
    generalize xs.length = N at *
    generalize ys.length = M at *
    have d1 : ((N : Int) != (M : Int)) = true := by simp; omega
    have d2 : ((N : Int) == (M : Int)) = false := by simp; omega
    clear hn h1 h2
    go_enter Tryz.func41, Tryz.ntmps41
    go_wp2_with fail
    go_ret
    exact ⟨ret_eq (by rw [hr2.out]; rfl), KB.refl _ _⟩
set_option maxRecDepth 100000 in
set_option maxHeartbeats 4000000 in
theorem cmpStep_any (x y : Int) (w : World) : Calls Tryz.prog 64 #[.int .i64 x, .int .i64 y] w fun e w' => e = .returned (.int .i64 (cmpI x y)) ∧ w = w' := by
  obtain ⟨w0, rfl⟩ : ∃ w0, w0 = w := ⟨_, rfl⟩
  obtain ⟨r, hr⟩ : ∃ r, r = cmpI x y := ⟨_, rfl⟩
  rw [← hr]
  have Hr := Lib.hid hr
  clear hr
  have hc := cmpI_cases x y
  rw [← Hr.out] at hc
  rcases hc with ⟨h1, h2⟩ | ⟨h1, h2⟩ | ⟨h1, h2⟩
  · have HE := Lib.hid h2
    have d1 : decide (x < y) = true := decide_eq_true h1
    clear h1 h2
    go_enter Tryz.func64, Tryz.ntmps64
    go_wp2
    go_ret
    exact ⟨ret_eq (by rw [HE.out]; rfl), rfl⟩
  · have HE := Lib.hid h2
    subst h1
    have d1 : decide (x < x) = false := decide_eq_false (by omega)
    clear h2
    go_enter Tryz.func64, Tryz.ntmps64
    go_wp2
    go_ret
    exact ⟨ret_eq (by rw [HE.out]; rfl), rfl⟩
  · have HE := Lib.hid h2
    have d1 : decide (x < y) = false := decide_eq_false (by omega)
    have d2 : decide (y < x) = true := decide_eq_true h1
    clear h1 h2
    go_enter Tryz.func64, Tryz.ntmps64
    go_wp2
    go_ret
    exact ⟨ret_eq (by rw [HE.out]; rfl), rfl⟩
theorem cmpInt_any (x y : Int) (w : World) : Calls Tryz.prog 43 #[.int .i64 x, .int .i64 y] w fun e w' => e = .returned (.int .i64 (cmpI x y)) ∧ w = w' := by
  refine (Tryz.cmp_Compare_int x y w).mono ?_
  rintro e w' ⟨rfl, rfl⟩
  refine ⟨?_, rfl⟩
  have : Lib.compareInt x y = cmpI x y := by
    unfold Lib.compareInt cmpI
    first | rfl | (split <;> rfl)
  rw [this]
end Go.Proofs.YtpigppghcghpbaaGreatDoor

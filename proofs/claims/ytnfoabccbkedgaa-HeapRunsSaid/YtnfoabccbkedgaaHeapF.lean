/- The walks of Heap.Give, New, Copy. -/
import Derived.Test.YtnfoabccbkedgaaHeapE
namespace Go.Proofs.Ytnfoabccbkedgaa
open Go.RowKit

theorem msk_andNot (f : Nat → Bool) (i : Nat) (h : i < 12) : msk f 12 &&& (2 ^ 16 - (2 ^ i + 1)) = msk (up f i false) 12 := by
  apply Nat.eq_of_testBit_eq; intro j
  have hi : 2 ^ i < 2 ^ 16 := Nat.pow_lt_pow_right (by omega) (by omega)
  rw [Nat.testBit_and, msk_bit, msk_bit, Nat.testBit_two_pow_sub_succ hi, Nat.testBit_two_pow]
  by_cases e : j = i
  · subst e; simp [up]
  · simp only [up, e, if_false, show ¬ i = j from fun x => e x.symm, decide_false, Bool.not_false, Bool.and_true]
    by_cases hj : j < 12
    · simp [hj, show j < 16 by omega]
    · simp [hj]
theorem bv_andNot (x y : Nat) (hx : x < 2 ^ 16) (hy : y < 2 ^ 16) : ((BitVec.ofInt 16 (x : Int)) &&& ~~~ (BitVec.ofInt 16 (y : Int))).toNat = x &&& (2 ^ 16 - (y + 1)) := by
  simp only [BitVec.ofInt_natCast, BitVec.toNat_and, BitVec.toNat_not, BitVec.toNat_ofNat]
  rw [Nat.mod_eq_of_lt hx, Nat.mod_eq_of_lt hy, show 2 ^ 16 - 1 - y = 2 ^ 16 - (y + 1) by omega]
theorem mk_andNot (f : Nat → Bool) (i : Nat) (h : i < 12) : bits .andNot .u16 (mk f) (2 ^ i) = mk (up f i false) := by
  have hl := msk_lt f 12
  have hl2 := msk_lt (up f i false) 12
  have hi : 2 ^ i < 2 ^ 16 := Nat.pow_lt_pow_right (by omega) (by omega)
  unfold mk
  rw [← msk_andNot f i h]
  rw [← msk_andNot f i h] at hl2
  rw [show ((2 : Int) ^ i) = ((2 ^ i : Nat) : Int) by push_cast; rfl]
  show IntKind.u16.wrap (((BitVec.ofInt 16 ((msk f 12 : Nat) : Int)) &&& ~~~ (BitVec.ofInt 16 ((2 ^ i : Nat) : Int))).toNat : Nat) = _
  rw [bv_andNot _ _ (by omega) hi]
  exact wrap_u16 _ (by omega)

set_option maxRecDepth 100000 in
set_option maxHeartbeats 1000000 in
theorem give_yes (b : Nat) (s : HS) (x : Int) (c n : Nat) (w : World) (h : IH w b s) (hk : hblk x = some (c, n)) (ht : s.T c n = true) :
    Calls Try.prog 13 #[.pointer (some ⟨b,0,none⟩), .int .i64 x] w fun e w' =>
      e = .returned (.int .i64 0) ∧ IH w' b (s.free c n) ∧ KB (· = b) w w' := by
  obtain ⟨hc, hn, hx⟩ := hblk_some hk
  have htk := taken_any b s x w h
  have e1 : s.taken x = (true, 0) := by unfold HS.taken; rw [hk]; simp [ht]
  rw [e1] at htk
  obtain ⟨f, hf0⟩ : ∃ f, f = s.T c := ⟨_, rfl⟩
  obtain ⟨g, hg0⟩ : ∃ g, g = up f n false := ⟨_, rfl⟩
  have han := mk_andNot f n hn
  rw [← hg0] at han
  have hpw : IntKind.u16.wrap ((2 : Int) ^ n) = 2 ^ n := by
    have := wrap_u16 (2 ^ n) (Nat.lt_of_lt_of_le (Nat.pow_lt_pow_right (by omega) hn) (by decide))
    rwa [show ((2 ^ n : Nat) : Int) = 2 ^ n by push_cast; rfl] at this
  obtain ⟨W, hW⟩ : ∃ W, W = w.setCell ⟨b, 1 + 2 * c, none⟩ (.int .u16 (mk g)) := ⟨_, rfl⟩
  have h1 := h.setT hc g
  have kW := kb_set w b (1 + 2 * c) (.int .u16 (mk g))
  rw [← hW] at h1 kW
  have hfr : (⟨upc s.T c g, s.M⟩ : HS) = s.free c n := by subst hg0 hf0; rfl
  rw [hfr] at h1
  have Hfin : Hid (IH W b (s.free c n) ∧ KB (· = b) w W) := Lib.hid ⟨h1, kW⟩
  have HW := Lib.hid hW
  have cT := cellT h hc
  rw [← hf0] at cT
  have fz := h.frozen
  have Htk := Lib.hid htk
  have HK := Lib.hid hk
  clear h1 kW hW htk hk h hfr hf0 hg0 ht e1 hx
  obtain rfl | rfl | rfl | rfl | rfl : c = 0 ∨ c = 1 ∨ c = 2 ∨ c = 3 ∨ c = 4 := by omega
  all_goals
    simp only [Nat.reduceMul, Nat.reduceAdd] at cT HW
    go_enter Try.func13, Try.ntmps13
    go_wp2_with fail
    refine Htk.out.mono ?_
    rintro e w' ⟨rfl, m, rfl⟩
    go_wp2_with fail
    refine (block_yes _ n x HK.out _).mono ?_
    rintro e w' ⟨rfl, m2, rfl⟩
    go_wp2_with fail
    refine wp_region_text 14 GQ (kindV []) (by kernel_rfl) (by kernel_rfl) GQ.trans GQ.refl (GQ.start _) (kindV_mono _) ?_
    simp only [List.take_succ_cons, List.take_zero, List.drop_succ_cons, List.drop_zero]
    repeat (first | (refine rvc_det rfl rfl (by intro w hG hH; obtain ⟨n, rfl⟩ := hG; go_simp; first | done | with_reducible rfl) ?_; simp only [Act.put, List.setIfInBounds_toArray, List.set_cons_zero, List.set_cons_succ]) | (refine rvc_skip rfl ?_; simp only [Act.put, List.setIfInBounds_toArray, List.set_cons_zero, List.set_cons_succ]))
    refine rvc_nil (fun w hG hH => ?_)
    obtain ⟨n, rfl⟩ := hG
    clear hH
    go_wp2_with fail
    simp only [setCell_drewN]
    rw [← HW.out]
    go_wp2
    go_ret
    exact ⟨rfl, ⟨Hfin.out.1.1, Hfin.out.1.2⟩, ⟨Hfin.out.2.os, Hfin.out.2.tape, Hfin.out.2.output, Hfin.out.2.size, Hfin.out.2.block⟩⟩

set_option maxHeartbeats 1000000 in
theorem give_no (b : Nat) (s : HS) (x : Int) (w : World) (h : IH w b s) (hk : hblk x = none) :
    Calls Try.prog 13 #[.pointer (some ⟨b,0,none⟩), .int .i64 x] w fun e w' => e = .returned (.int .i64 2) ∧ IH w' b s ∧ KB (· = b) w w' := by
  have htk := taken_any b s x w h
  have e1 : s.taken x = (false, 2) := by unfold HS.taken; rw [hk]
  rw [e1] at htk
  have Htk := Lib.hid htk
  have Hh := Lib.hid h
  clear htk hk e1 h
  go_enter Try.func13, Try.ntmps13
  go_wp2_with fail
  refine Htk.out.mono ?_
  rintro e w' ⟨rfl, m, rfl⟩
  go_wp2
  go_ret
  exact ⟨rfl, ⟨Hh.out.1, Hh.out.2⟩, (KB.refl _ _).drewN _⟩

set_option maxHeartbeats 1000000 in
theorem give_free (b : Nat) (s : HS) (x : Int) (c n : Nat) (w : World) (h : IH w b s) (hk : hblk x = some (c, n)) (ht : s.T c n = false) :
    Calls Try.prog 13 #[.pointer (some ⟨b,0,none⟩), .int .i64 x] w fun e w' => e = .returned (.int .i64 261) ∧ IH w' b s ∧ KB (· = b) w w' := by
  have htk := taken_any b s x w h
  have e1 : s.taken x = (false, 0) := by unfold HS.taken; rw [hk]; simp [ht]
  rw [e1] at htk
  have Htk := Lib.hid htk
  have Hh := Lib.hid h
  clear htk hk e1 h ht
  go_enter Try.func13, Try.ntmps13
  go_wp2_with fail
  refine Htk.out.mono ?_
  rintro e w' ⟨rfl, m, rfl⟩
  go_wp2
  go_ret
  exact ⟨rfl, ⟨Hh.out.1, Hh.out.2⟩, (KB.refl _ _).drewN _⟩

/-- Heap.Give. -/
theorem give_any (b : Nat) (s : HS) (x : Int) (w : World) (h : IH w b s) :
    Calls Try.prog 13 #[.pointer (some ⟨b,0,none⟩), .int .i64 x] w fun e w' => e = .returned (.int .i64 (s.give x).1) ∧ IH w' b (s.give x).2 ∧ KB (· = b) w w' := by
  unfold HS.give
  cases hk : hblk x with
  | none => exact give_no b s x w h hk
  | some p =>
    obtain ⟨c, n⟩ := p
    simp only
    cases ht : s.T c n with
    | true => simp only [if_true]; exact give_yes b s x c n w h hk ht
    | false => exact give_free b s x c n w h hk ht

set_option maxHeartbeats 1000000 in
theorem new_any (w : World) : Calls Try.prog 7 #[] w fun e w' => e = .returned (.pointer (some ⟨w.heap.size, 0, none⟩)) ∧ IH w' w.heap.size HS.new ∧ KB (fun _ => False) w w' := by
  go_enter Try.func7, Try.ntmps7
  go_wp2
  go_ret
  refine ⟨rfl, ⟨?_, fun c _ => by simp [HS.new]⟩, (KB.refl _ _).alloc _⟩
  exact alloc_new w _

set_option maxHeartbeats 1000000 in
theorem copy_any (b : Nat) (s : HS) (w : World) (h : IH w b s) :
    Calls Try.prog 8 #[.pointer (some ⟨b,0,none⟩)] w fun e w' => e = .returned (.pointer (some ⟨w.heap.size, 0, none⟩)) ∧ IH w' w.heap.size s ∧ KB (fun _ => False) w w' := by
  have c0 := h.c0
  have t0 := cellT h (c := 0) (by omega)
  have t1 := cellT h (c := 1) (by omega)
  have t2 := cellT h (c := 2) (by omega)
  have t3 := cellT h (c := 3) (by omega)
  have t4 := cellT h (c := 4) (by omega)
  have m0 := cellM h (c := 0) (by omega)
  have m1 := cellM h (c := 1) (by omega)
  have m2 := cellM h (c := 2) (by omega)
  have m3 := cellM h (c := 3) (by omega)
  have m4 := cellM h (c := 4) (by omega)
  have hM := Lib.hid h.2
  simp only [Nat.reduceMul, Nat.reduceAdd] at t0 t1 t2 t3 t4 m0 m1 m2 m3 m4
  clear h
  go_enter Try.func8, Try.ntmps8
  go_wp2_with fail
  refine (is_any _ true _ (by assumption)).mono ?_
  rintro e w' ⟨rfl, rfl⟩
  go_wp2
  go_ret
  refine ⟨rfl, ⟨?_, hM.out⟩, (KB.refl _ _).alloc _⟩
  exact alloc_new w _
end Go.Proofs.Ytnfoabccbkedgaa

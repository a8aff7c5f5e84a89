/- loanwordref03.fields and children at whatever kind. -/
import Derived.Test.YtjefoojkgocinaaDoorTreeM1
import Derived.Test.YtjefoojkgocinaaDoorTreeM4
import Derived.Test.YtjefoojkgocinaaDoorTreeN1
import Derived.Test.YtjefoojkgocinaaDoorTreeO
namespace Go.Proofs.YtjefoojkgocinaaDoor
open Go.RowKit

theorem fields_any (k : Nat) (hk : k < 256) (at_ n : Int) (s : ByteArray) (la : Option Addr) (ll lc : Nat) (w : World) (hs : s.size ≤ 9223372036854775807) (hn2 : n ≤ 9223372036854775807) :
    Calls Tryd.prog 62 #[.agg #[.int .u8 k, .int .i64 at_, .int .i64 n, .string s, .slice la ll lc]] w fun e w' => e = .returned (.bool (fieldsB k at_ n s)) ∧ KB F0 w w' := by
  by_cases h38 : 38 ≤ k
  · exact fields_38 k h38 hk at_ n s la ll lc w hs hn2
  · obtain rfl | rfl | rfl | rfl | rfl | rfl | rfl | rfl | rfl | rfl | rfl | rfl | rfl | rfl | rfl | rfl | rfl | rfl | rfl | rfl | rfl | rfl | rfl | rfl | rfl | rfl | rfl | rfl | rfl | rfl | rfl | rfl | rfl | rfl | rfl | rfl | rfl | rfl : k = 0 ∨ k = 1 ∨ k = 2 ∨ k = 3 ∨ k = 4 ∨ k = 5 ∨ k = 6 ∨ k = 7 ∨ k = 8 ∨ k = 9 ∨ k = 10 ∨ k = 11 ∨ k = 12 ∨ k = 13 ∨ k = 14 ∨ k = 15 ∨ k = 16 ∨ k = 17 ∨ k = 18 ∨ k = 19 ∨ k = 20 ∨ k = 21 ∨ k = 22 ∨ k = 23 ∨ k = 24 ∨ k = 25 ∨ k = 26 ∨ k = 27 ∨ k = 28 ∨ k = 29 ∨ k = 30 ∨ k = 31 ∨ k = 32 ∨ k = 33 ∨ k = 34 ∨ k = 35 ∨ k = 36 ∨ k = 37 := by omega
    · exact fields_0 at_ n s la ll lc w hs hn2
    · exact fields_1 at_ n s la ll lc w hs hn2
    · exact fields_2 at_ n s la ll lc w hs hn2
    · exact fields_3 at_ n s la ll lc w hs hn2
    · exact fields_4 at_ n s la ll lc w hs hn2
    · exact fields_5 at_ n s la ll lc w hs hn2
    · exact fields_6 at_ n s la ll lc w hs hn2
    · exact fields_7 at_ n s la ll lc w hs hn2
    · exact fields_8 at_ n s la ll lc w hs hn2
    · exact fields_9 at_ n s la ll lc w hs hn2
    · exact fields_10 at_ n s la ll lc w hs hn2
    · exact fields_11 at_ n s la ll lc w hs hn2
    · exact fields_12 at_ n s la ll lc w hs hn2
    · exact fields_13 at_ n s la ll lc w hs hn2
    · exact fields_14 at_ n s la ll lc w hs hn2
    · exact fields_15 at_ n s la ll lc w hs hn2
    · exact fields_16 at_ n s la ll lc w hs hn2
    · exact fields_17 at_ n s la ll lc w hs hn2
    · exact fields_18 at_ n s la ll lc w hs hn2
    · exact fields_19 at_ n s la ll lc w hs hn2
    · exact fields_20 at_ n s la ll lc w hs hn2
    · exact fields_21 at_ n s la ll lc w hs hn2
    · exact fields_22 at_ n s la ll lc w hs hn2
    · exact fields_23 at_ n s la ll lc w hs hn2
    · exact fields_24 at_ n s la ll lc w hs hn2
    · exact fields_25 at_ n s la ll lc w hs hn2
    · exact fields_26 at_ n s la ll lc w hs hn2
    · exact fields_27 at_ n s la ll lc w hs hn2
    · exact fields_28 at_ n s la ll lc w hs hn2
    · exact fields_29 at_ n s la ll lc w hs hn2
    · exact fields_30 at_ n s la ll lc w hs hn2
    · exact fields_31 at_ n s la ll lc w hs hn2
    · exact fields_32 at_ n s la ll lc w hs hn2
    · exact fields_33 at_ n s la ll lc w hs hn2
    · exact fields_34 at_ n s la ll lc w hs hn2
    · exact fields_35 at_ n s la ll lc w hs hn2
    · exact fields_36 at_ n s la ll lc w hs hn2
    · exact fields_37 at_ n s la ll lc w hs hn2

set_option maxRecDepth 100000 in
set_option maxHeartbeats 2000000 in
theorem ch_1 (at_ n : Int) (s : ByteArray) (la : Option Addr) (ll lc : Nat) (a : Option Addr) (l : List Nat) (cap : Nat) (w : World) (hl : l.length ≤ 16384) (_hb : ∀ y ∈ l, y < 256) (ha : KindsAt w a l) :
    Calls Tryd.prog 63 #[.agg #[.int .u8 1, .int .i64 at_, .int .i64 n, .string s, .slice la ll lc], .slice a l.length cap] w fun e w' => e = .returned (.bool ((askR 1 n s l).1)) ∧ KB F0 w w' := by
  obtain ⟨w0, rfl⟩ : ∃ w0, w0 = w := ⟨_, rfl⟩
  obtain ⟨r, hr⟩ : ∃ r, r = (askR 1 n s l).1 := ⟨_, rfl⟩
  rw [← hr]
  have Hr : Hid (r = l.all (Cls.kd [2, 4]).ok) := Lib.hid (by
    rw [hr]
    show (decide ((0 : Int) ≤ l.length) && decide ((l.length : Int) ≤ 16384) && l.all (Cls.kd [2, 4]).ok) = _
    rw [decide_eq_true (by omega), decide_eq_true (by omega)]; simp)
  obtain ⟨B0, hB0⟩ : ∃ B0, B0 = (w0.alloc (.cells #[.int .u8 1, .int .i64 at_, .int .i64 n, .string s, .slice la ll lc] 25)) := ⟨_, rfl⟩
  have K : KB F0 w0 B0 := by subst hB0; exact (KB.refl _ _).alloc _
  have HB0 := Lib.hid hB0
  have Ha := Lib.hid (ha.kbF K)
  obtain ⟨L, hL⟩ : ∃ L, L = l.length := ⟨_, rfl⟩
  rw [← hL] at hl ⊢
  have HL := Lib.hid hL
  clear hr hB0 ha _hb hL
  go_enter Tryd.func63, Tryd.ntmps63
  go_wp2_with fail
  rw [← HB0.out]
  go_loop [5] (fun i => ∃ k : Nat, k ≤ L ∧ i = .int .i64 k ∧ Hid ((l.take k).all (Cls.kd [2, 4]).ok = true)) (fun i => L - (intOf i).toNat)
  case atStart => exact ⟨0, by omega, rfl, rfl⟩
  case round =>
    obtain ⟨k, hk, rfl, hj⟩ := hrel
    by_cases hlt : k < L
    · obtain ⟨bb, off, rfl, hc⟩ := Ha.out k (by rw [← HL.out]; exact hlt)
      have hs := Lib.hid (all_take_succ (p := (Cls.kd [2, 4]).ok) (l := l) (k := k) (by rw [← HL.out]; exact hlt))
      have hmem := Lib.hid (getD_mem (l := l) (k := k) (by rw [← HL.out]; exact hlt))
      generalize l.getD k 0 = y at hc hs hmem
      have hokv : Hid ((Cls.kd [2, 4]).ok y = (decide (y = 2) || decide (y = 4))) := Lib.hid (by
        simp only [Cls.ok, List.any_cons, List.any_nil, Bool.or_false]
        rw [Bool.eq_iff_iff]; simp; omega)
      have u2 := dne1 (k := 2) (c := y) (m := 2) rfl
      have u4 := dne1 (k := 4) (c := y) (m := 4) rfl
      have hyes : Hid ((decide (y = 2) || decide (y = 4)) = true → (l.take (k + 1)).all (Cls.kd [2, 4]).ok = true) := Lib.hid (fun h => by rw [hs.out, hj.out, hokv.out, h]; rfl)
      have hno : Hid ((decide (y = 2) || decide (y = 4)) = false → r = false) := Lib.hid (fun h => by rw [Hr.out, List.all_eq_false]; exact ⟨y, hmem.out, by rw [hokv.out, h]; exact Bool.false_ne_true⟩)
      clear hs hmem hokv hj
      generalize decide (y = 2) = b2 at u2 hyes hno
      generalize decide (y = 4) = b4 at u4 hyes hno
      cases b2
      · cases b4
        · have hr := Lib.hid (hno.out rfl)
          go_wp2
          go_ret
          exact ⟨ret_eq (by rw [hr.out]; rfl), K⟩
        · have hj := Lib.hid (hyes.out rfl)
          go_wp2
          go_round
          case rel => exact ⟨k + 1, by omega, by go_num, hj⟩
          case measure => simp [intOf]; omega
      · have hj := Lib.hid (hyes.out rfl)
        go_wp2
        go_round
        case rel => exact ⟨k + 1, by omega, by go_num, hj⟩
        case measure => simp [intOf]; omega
    · obtain rfl : L = k := by omega
      have hr : Hid (r = true) := Lib.hid (by have := hj.out; rw [List.take_of_length_le (by rw [← HL.out]; exact Nat.le_refl _)] at this; rw [Hr.out, this])
      go_wp2
      go_ret
      exact ⟨ret_eq (by rw [hr.out]; rfl), K⟩
set_option maxRecDepth 100000 in
set_option maxHeartbeats 2000000 in
theorem ch_4 (at_ n : Int) (s : ByteArray) (la : Option Addr) (ll lc : Nat) (a : Option Addr) (l : List Nat) (cap : Nat) (w : World) (hl : l.length ≤ 16384) (hb : ∀ y ∈ l, y < 256) (ha : KindsAt w a l) (hn : 0 ≤ n) (_hn8 : n ≤ 8) :
    Calls Tryd.prog 63 #[.agg #[.int .u8 4, .int .i64 at_, .int .i64 n, .string s, .slice la ll lc], .slice a l.length cap] w fun e w' => e = .returned (.bool ((askR 4 n s l).1)) ∧ KB F0 w w' := by
  obtain ⟨N, rfl⟩ := Int.eq_ofNat_of_zero_le hn
  have HF := Lib.hid (fun W (hk : KB F0 w W) => (show Calls Tryd.prog 76 #[.agg #[.int .u8 4, .int .i64 at_, .int .i64 N, .string s, .slice la ll lc], .slice a l.length cap] W (fun e w' => e = .returned (.bool (fnB N l)) ∧ KB F0 W w') from cfn_any 4 at_ N (by omega) s la ll lc a l cap W hl hb (ha.kbF hk)))
  have Hr : Hid ((askR 4 (N : Int) s l).1 = fnB N l) := Lib.hid rfl
  generalize fnB (N : Int) l = b0 at HF Hr
  generalize (askR 4 (N : Int) s l).1 = ok at Hr ⊢
  clear ha hb
  go_enter Tryd.func63, Tryd.ntmps63
  go_wp2_with fail
  refine (HF.out _ (by repeat (first | exact KB.refl _ _ | refine KB.alloc ?_ _))).mono ?_
  rintro e w' ⟨rfl, hk⟩
  go_wp2
  go_ret
  exact ⟨ret_eq (by rw [Hr.out]; rfl), KB.trans (by repeat (first | exact KB.refl _ _ | refine KB.alloc ?_ _)) hk⟩
def chB (k : Nat) (n : Int) (s : ByteArray) (l : List Nat) : Bool := if k = 0 ∨ 38 ≤ k then len0B l else (askR k n s l).1
theorem children_any (k : Nat) (at_ n : Int) (s : ByteArray) (la : Option Addr) (ll lc : Nat) (a : Option Addr) (l : List Nat) (cap : Nat) (w : World) (hl : l.length ≤ 16384) (hb : ∀ y ∈ l, y < 256) (ha : KindsAt w a l) (h4 : k = 4 → 0 ≤ n ∧ n ≤ 8) (h16 : k = 16 → n = 0 ∨ n = 1) :
    Calls Tryd.prog 63 #[.agg #[.int .u8 k, .int .i64 at_, .int .i64 n, .string s, .slice la ll lc], .slice a l.length cap] w fun e w' => e = .returned (.bool (chB k n s l)) ∧ KB F0 w w' := by
  by_cases h38 : 38 ≤ k
  · have : chB k n s l = len0B l := by unfold chB; rw [if_pos (.inr h38)]
    rw [this]
    exact ch_38 k h38 at_ n s la ll lc a l cap w hl hb ha
  · by_cases h0 : k = 0
    · subst h0
      exact ch_0 at_ n s la ll lc a l cap w hl hb ha
    · have : chB k n s l = (askR k n s l).1 := by unfold chB; rw [if_neg (by omega)]
      rw [this]
      clear this
      obtain rfl | rfl | rfl | rfl | rfl | rfl | rfl | rfl | rfl | rfl | rfl | rfl | rfl | rfl | rfl | rfl | rfl | rfl | rfl | rfl | rfl | rfl | rfl | rfl | rfl | rfl | rfl | rfl | rfl | rfl | rfl | rfl | rfl | rfl | rfl | rfl | rfl : k = 1 ∨ k = 2 ∨ k = 3 ∨ k = 4 ∨ k = 5 ∨ k = 6 ∨ k = 7 ∨ k = 8 ∨ k = 9 ∨ k = 10 ∨ k = 11 ∨ k = 12 ∨ k = 13 ∨ k = 14 ∨ k = 15 ∨ k = 16 ∨ k = 17 ∨ k = 18 ∨ k = 19 ∨ k = 20 ∨ k = 21 ∨ k = 22 ∨ k = 23 ∨ k = 24 ∨ k = 25 ∨ k = 26 ∨ k = 27 ∨ k = 28 ∨ k = 29 ∨ k = 30 ∨ k = 31 ∨ k = 32 ∨ k = 33 ∨ k = 34 ∨ k = 35 ∨ k = 36 ∨ k = 37 := by omega
      · exact ch_1 at_ n s la ll lc a l cap w hl hb ha
      · exact ch_2 at_ n s la ll lc a l cap w hl hb ha
      · exact ch_3 at_ n s la ll lc a l cap w hl hb ha
      · exact ch_4 at_ n s la ll lc a l cap w hl hb ha (h4 rfl).1 (h4 rfl).2
      · exact ch_5 at_ n s la ll lc a l cap w hl hb ha
      · exact ch_6 at_ n s la ll lc a l cap w hl hb ha
      · exact ch_7 at_ n s la ll lc a l cap w hl hb ha
      · exact ch_8 at_ n s la ll lc a l cap w hl hb ha
      · exact ch_9 at_ n s la ll lc a l cap w hl hb ha
      · exact ch_10 at_ n s la ll lc a l cap w hl hb ha
      · exact ch_11 at_ n s la ll lc a l cap w hl hb ha
      · exact ch_12 at_ n s la ll lc a l cap w hl hb ha
      · exact ch_13 at_ n s la ll lc a l cap w hl hb ha
      · by_cases e1 : n = 1
        · exact ch_14a at_ n s la ll lc a l cap w hl hb ha e1
        · by_cases e2 : n = 2
          · exact ch_14b at_ n s la ll lc a l cap w hl hb ha e2
          · exact ch_14c at_ n s la ll lc a l cap w hl hb ha e1 e2
      · exact ch_15 at_ n s la ll lc a l cap w hl hb ha
      · rcases h16 rfl with e1 | e1
        · exact ch_16a at_ n s la ll lc a l cap w hl hb ha e1
        · exact ch_16b at_ n s la ll lc a l cap w hl hb ha e1
      · exact ch_17 at_ n s la ll lc a l cap w hl hb ha
      · exact ch_18 at_ n s la ll lc a l cap w hl hb ha
      · exact ch_19 at_ n s la ll lc a l cap w hl hb ha
      · exact ch_20 at_ n s la ll lc a l cap w hl hb ha
      · exact ch_21 at_ n s la ll lc a l cap w hl hb ha
      · exact ch_22 at_ n s la ll lc a l cap w hl hb ha
      · exact ch_23 at_ n s la ll lc a l cap w hl hb ha
      · exact ch_24 at_ n s la ll lc a l cap w hl hb ha
      · exact ch_25 at_ n s la ll lc a l cap w hl hb ha
      · exact ch_26 at_ n s la ll lc a l cap w hl hb ha
      · exact ch_27 at_ n s la ll lc a l cap w hl hb ha
      · exact ch_28 at_ n s la ll lc a l cap w hl hb ha
      · exact ch_29 at_ n s la ll lc a l cap w hl hb ha
      · exact ch_30 at_ n s la ll lc a l cap w hl hb ha
      · exact ch_31 at_ n s la ll lc a l cap w hl hb ha
      · exact ch_32 at_ n s la ll lc a l cap w hl hb ha
      · exact ch_33 at_ n s la ll lc a l cap w hl hb ha
      · exact ch_34 at_ n s la ll lc a l cap w hl hb ha
      · exact ch_35 at_ n s la ll lc a l cap w hl hb ha
      · exact ch_36 at_ n s la ll lc a l cap w hl hb ha
      · exact ch_37 at_ n s la ll lc a l cap w hl hb ha
end Go.Proofs.YtjefoojkgocinaaDoor

/- tree.asksInside at each kind of nodes but NLet, NIf, NBin. -/
import Derived.Test.YtoophdcagpfmpaaGreatDoorMg06
namespace Go.Proofs.YtoophdcagpfmpaaGreatDoor
open Go.RowKit
theorem ask_big (n : Int) (s : ByteArray) (l : List Nat) : ∀ {k : Nat}, 38 ≤ k → askR k n s l = (false, emptyB s, 0, 0)
  | k + 38, _ => rfl
section
variable (at_ n : Int) (s : ByteArray) (la : Option Addr) (ll lc : Nat) (a : Option Addr) (l : List Nat) (cap : Nat) (w : World)
set_option maxRecDepth 100000 in
set_option maxHeartbeats 40000000 in
theorem asks_g13 (hs : s.size ≤ 9223372036854775807) (hl : l.length ≤ 9223372036854775807) (ha : KindsAt w a l) (hT : Tab w) (hn1 : -9223372036854775808 ≤ n) (hn2 : n ≤ 9223372036854775807) (k : Nat) (ki : Int) (hk : k = 13 ∧ ki = 13) :
    Calls Tryz.prog 117 #[.agg #[.int .u8 ki, .int .i64 at_, .int .i64 n, .string s, .slice la ll lc], .slice a l.length cap] w fun e w' => e = .returned (.bool (askB k n s l)) ∧ KB F0 w w' := by
  have Hr : Hid (askB k n s l = (askedB l 0 16384 (.st) && emptyB s && decide ((0 : Int) ≤ n) && decide (n ≤ (0 : Int)))) := Lib.hid (by rcases hk with ⟨rfl, rfl⟩ <;> rfl)
  obtain ⟨B0, HB0, K, -, -, c2, c3, HB0s⟩ := boxN w ki at_ n s la ll lc
  have HA := Lib.hid (fun W v (hk : KB F0 w W) (hv : ClsV W v (.st)) => asked_any a l cap 0 16384 v (.st) W hl (ha.kbF hk) hv)
  generalize askedB l 0 16384 (.st) = b0 at HA Hr
  have tE : s.toList.isEmpty = emptyB s := rfl
  generalize emptyB s = bE at tE Hr
  obtain ⟨b1, hb1⟩ : ∃ b, decide ((0 : Int) ≤ n) = b := ⟨_, rfl⟩
  obtain ⟨b2, hb2⟩ : ∃ b, decide (n ≤ (0 : Int)) = b := ⟨_, rfl⟩
  rw [hb1, hb2] at Hr
  clear ha hT
  obtain ⟨rfl, rfl⟩ := hk
  rcases (show (b0 = false) ∨ (b0 = true ∧ bE = false) ∨ (b0 = true ∧ bE = true ∧ b1 = false) ∨ (b0 = true ∧ bE = true ∧ b1 = true ∧ b2 = false) ∨ (b0 = true ∧ bE = true ∧ b1 = true ∧ b2 = true) by cases b0 <;> cases bE <;> cases b1 <;> cases b2 <;> simp) with rfl | ⟨rfl, rfl⟩ | ⟨rfl, rfl, rfl⟩ | ⟨rfl, rfl, rfl, rfl⟩ | ⟨rfl, rfl, rfl, rfl⟩
  all_goals
    go_enter Tryz.func117, Tryz.ntmps117
    go_wp2_with fail
    rw [← HB0.out]
    try rw [HB0s.out]
    refine (HA.out _ _ (K.trans (by repeat (first | exact KB.refl _ _ | refine KB.alloc ?_ _))) (show ClsV _ (.func (.func 154) #[] #[]) .st from rfl)).mono ?_
    rintro e W1 ⟨rfl, hkk⟩
    have kk : KB F0 B0 W1 := KB.trans (by repeat (first | exact KB.refl _ _ | refine KB.alloc ?_ _)) hkk
    replace c2 := kk.cell (p := ⟨w.heap.size, 2, none⟩) (fun x => x) c2
    replace c3 := kk.cell (p := ⟨w.heap.size, 3, none⟩) (fun x => x) c3
    replace K := K.trans kk
    clear kk hkk
    go_wp2_with fail
    go_ret
    exact ⟨ret_eq (by rw [Hr.out]; rfl), K⟩
set_option maxRecDepth 100000 in
set_option maxHeartbeats 40000000 in
theorem asks_g15 (hs : s.size ≤ 9223372036854775807) (hl : l.length ≤ 9223372036854775807) (ha : KindsAt w a l) (hT : Tab w) (hn1 : -9223372036854775808 ≤ n) (hn2 : n ≤ 9223372036854775807) (k : Nat) (ki : Int) (hk : k = 15 ∧ ki = 15) :
    Calls Tryz.prog 117 #[.agg #[.int .u8 ki, .int .i64 at_, .int .i64 n, .string s, .slice la ll lc], .slice a l.length cap] w fun e w' => e = .returned (.bool (askB k n s l)) ∧ KB F0 w w' := by
  have Hr : Hid (askB k n s l = (justB l [.ex, .ex] && emptyB s && decide ((0 : Int) ≤ n) && decide (n ≤ (0 : Int)))) := Lib.hid (by rcases hk with ⟨rfl, rfl⟩ <;> rfl)
  obtain ⟨B0, HB0, K, -, -, c2, c3, HB0s⟩ := boxN w ki at_ n s la ll lc
  have HJ := Lib.hid (fun W a2 cap2 (hk : KB F0 w W) (hc : ClsAt W a2 [.ex, .ex]) => justV a a2 l [.ex, .ex] cap cap2 W hl (by decide) (ha.kbF hk) hc)
  generalize justB l [.ex, .ex] = b0 at HJ Hr
  have tE : s.toList.isEmpty = emptyB s := rfl
  generalize emptyB s = bE at tE Hr
  obtain ⟨b1, hb1⟩ : ∃ b, decide ((0 : Int) ≤ n) = b := ⟨_, rfl⟩
  obtain ⟨b2, hb2⟩ : ∃ b, decide (n ≤ (0 : Int)) = b := ⟨_, rfl⟩
  rw [hb1, hb2] at Hr
  clear ha hT
  obtain ⟨rfl, rfl⟩ := hk
  rcases (show (b0 = false) ∨ (b0 = true ∧ bE = false) ∨ (b0 = true ∧ bE = true ∧ b1 = false) ∨ (b0 = true ∧ bE = true ∧ b1 = true ∧ b2 = false) ∨ (b0 = true ∧ bE = true ∧ b1 = true ∧ b2 = true) by cases b0 <;> cases bE <;> cases b1 <;> cases b2 <;> simp) with rfl | ⟨rfl, rfl⟩ | ⟨rfl, rfl, rfl⟩ | ⟨rfl, rfl, rfl, rfl⟩ | ⟨rfl, rfl, rfl, rfl⟩
  all_goals
    go_enter Tryz.func117, Tryz.ntmps117
    go_wp2_with fail
    rw [← HB0.out]
    try rw [HB0s.out]
    refine (HJ.out _ _ _ (K.trans (by repeat (first | exact KB.refl _ _ | refine KB.alloc ?_ _))) (clsat2 (W := B0) (show ClsV _ (.func (.func 158) #[] #[]) .ex from rfl) (show ClsV _ (.func (.func 158) #[] #[]) .ex from rfl))).mono ?_
    rintro e W1 ⟨rfl, hkk⟩
    have kk : KB F0 B0 W1 := KB.trans (by repeat (first | exact KB.refl _ _ | refine KB.alloc ?_ _)) hkk
    replace c2 := kk.cell (p := ⟨w.heap.size, 2, none⟩) (fun x => x) c2
    replace c3 := kk.cell (p := ⟨w.heap.size, 3, none⟩) (fun x => x) c3
    replace K := K.trans kk
    clear kk hkk
    go_wp2_with fail
    go_ret
    exact ⟨ret_eq (by rw [Hr.out]; rfl), K⟩
set_option maxRecDepth 100000 in
set_option maxHeartbeats 40000000 in
theorem asks_g17 (hs : s.size ≤ 9223372036854775807) (hl : l.length ≤ 9223372036854775807) (ha : KindsAt w a l) (hT : Tab w) (hn1 : -9223372036854775808 ≤ n) (hn2 : n ≤ 9223372036854775807) (k : Nat) (ki : Int) (hk : k = 17 ∧ ki = 17) :
    Calls Tryz.prog 117 #[.agg #[.int .u8 ki, .int .i64 at_, .int .i64 n, .string s, .slice la ll lc], .slice a l.length cap] w fun e w' => e = .returned (.bool (askB k n s l)) ∧ KB F0 w w' := by
  have Hr : Hid (askB k n s l = (justB l [.ex, .kd [13]] && emptyB s && decide ((0 : Int) ≤ n) && decide (n ≤ (0 : Int)))) := Lib.hid (by rcases hk with ⟨rfl, rfl⟩ <;> rfl)
  obtain ⟨B0, HB0, K, -, -, c2, c3, HB0s⟩ := boxN w ki at_ n s la ll lc
  have HJ := Lib.hid (fun W a2 cap2 (hk : KB F0 w W) (hc : ClsAt W a2 [.ex, .kd [13]]) => justV a a2 l [.ex, .kd [13]] cap cap2 W hl (by decide) (ha.kbF hk) hc)
  generalize justB l [.ex, .kd [13]] = b0 at HJ Hr
  have tE : s.toList.isEmpty = emptyB s := rfl
  generalize emptyB s = bE at tE Hr
  obtain ⟨b1, hb1⟩ : ∃ b, decide ((0 : Int) ≤ n) = b := ⟨_, rfl⟩
  obtain ⟨b2, hb2⟩ : ∃ b, decide (n ≤ (0 : Int)) = b := ⟨_, rfl⟩
  rw [hb1, hb2] at Hr
  clear ha hT
  obtain ⟨rfl, rfl⟩ := hk
  rcases (show (b0 = false) ∨ (b0 = true ∧ bE = false) ∨ (b0 = true ∧ bE = true ∧ b1 = false) ∨ (b0 = true ∧ bE = true ∧ b1 = true ∧ b2 = false) ∨ (b0 = true ∧ bE = true ∧ b1 = true ∧ b2 = true) by cases b0 <;> cases bE <;> cases b1 <;> cases b2 <;> simp) with rfl | ⟨rfl, rfl⟩ | ⟨rfl, rfl, rfl⟩ | ⟨rfl, rfl, rfl, rfl⟩ | ⟨rfl, rfl, rfl, rfl⟩
  all_goals
    go_enter Tryz.func117, Tryz.ntmps117
    go_wp2_with fail
    rw [← HB0.out]
    try rw [HB0s.out]
    refine (kindCall (ks := [13]) _ (by decide) (alloc_new B0 _)).mono ?_
    rintro e W1 ⟨kb1, rfl, hc0, hkk⟩
    have kk : KB F0 B0 W1 := KB.trans (by repeat (first | exact KB.refl _ _ | refine KB.alloc ?_ _)) hkk
    replace c2 := kk.cell (p := ⟨w.heap.size, 2, none⟩) (fun x => x) c2
    replace c3 := kk.cell (p := ⟨w.heap.size, 3, none⟩) (fun x => x) c3
    replace K := K.trans kk
    clear kk hkk
    go_wp2_with fail
    refine (HJ.out _ _ _ (K.trans (by repeat (first | exact KB.refl _ _ | refine KB.alloc ?_ _))) (clsat2 (W := W1) (show ClsV _ (.func (.func 158) #[] #[]) .ex from rfl) hc0)).mono ?_
    rintro e W2 ⟨rfl, hkk⟩
    have kk : KB F0 W1 W2 := KB.trans (by repeat (first | exact KB.refl _ _ | refine KB.alloc ?_ _)) hkk
    replace c2 := kk.cell (p := ⟨w.heap.size, 2, none⟩) (fun x => x) c2
    replace c3 := kk.cell (p := ⟨w.heap.size, 3, none⟩) (fun x => x) c3
    replace K := K.trans kk
    clear kk hkk
    go_wp2_with fail
    go_ret
    exact ⟨ret_eq (by rw [Hr.out]; rfl), K⟩
set_option maxRecDepth 100000 in
set_option maxHeartbeats 40000000 in
theorem asks_g18 (hs : s.size ≤ 9223372036854775807) (hl : l.length ≤ 9223372036854775807) (ha : KindsAt w a l) (hT : Tab w) (hn1 : -9223372036854775808 ≤ n) (hn2 : n ≤ 9223372036854775807) (k : Nat) (ki : Int) (hk : k = 18 ∧ ki = 18) :
    Calls Tryz.prog 117 #[.agg #[.int .u8 ki, .int .i64 at_, .int .i64 n, .string s, .slice la ll lc], .slice a l.length cap] w fun e w' => e = .returned (.bool (askB k n s l)) ∧ KB F0 w w' := by
  have Hr : Hid (askB k n s l = (justB l [.kd [13]] && emptyB s && decide ((0 : Int) ≤ n) && decide (n ≤ (0 : Int)))) := Lib.hid (by rcases hk with ⟨rfl, rfl⟩ <;> rfl)
  obtain ⟨B0, HB0, K, -, -, c2, c3, HB0s⟩ := boxN w ki at_ n s la ll lc
  have HJ := Lib.hid (fun W a2 cap2 (hk : KB F0 w W) (hc : ClsAt W a2 [.kd [13]]) => justV a a2 l [.kd [13]] cap cap2 W hl (by decide) (ha.kbF hk) hc)
  generalize justB l [.kd [13]] = b0 at HJ Hr
  have tE : s.toList.isEmpty = emptyB s := rfl
  generalize emptyB s = bE at tE Hr
  obtain ⟨b1, hb1⟩ : ∃ b, decide ((0 : Int) ≤ n) = b := ⟨_, rfl⟩
  obtain ⟨b2, hb2⟩ : ∃ b, decide (n ≤ (0 : Int)) = b := ⟨_, rfl⟩
  rw [hb1, hb2] at Hr
  clear ha hT
  obtain ⟨rfl, rfl⟩ := hk
  rcases (show (b0 = false) ∨ (b0 = true ∧ bE = false) ∨ (b0 = true ∧ bE = true ∧ b1 = false) ∨ (b0 = true ∧ bE = true ∧ b1 = true ∧ b2 = false) ∨ (b0 = true ∧ bE = true ∧ b1 = true ∧ b2 = true) by cases b0 <;> cases bE <;> cases b1 <;> cases b2 <;> simp) with rfl | ⟨rfl, rfl⟩ | ⟨rfl, rfl, rfl⟩ | ⟨rfl, rfl, rfl, rfl⟩ | ⟨rfl, rfl, rfl, rfl⟩
  all_goals
    go_enter Tryz.func117, Tryz.ntmps117
    go_wp2_with fail
    rw [← HB0.out]
    try rw [HB0s.out]
    refine (kindCall (ks := [13]) _ (by decide) (alloc_new B0 _)).mono ?_
    rintro e W1 ⟨kb1, rfl, hc0, hkk⟩
    have kk : KB F0 B0 W1 := KB.trans (by repeat (first | exact KB.refl _ _ | refine KB.alloc ?_ _)) hkk
    replace c2 := kk.cell (p := ⟨w.heap.size, 2, none⟩) (fun x => x) c2
    replace c3 := kk.cell (p := ⟨w.heap.size, 3, none⟩) (fun x => x) c3
    replace K := K.trans kk
    clear kk hkk
    go_wp2_with fail
    refine (HJ.out _ _ _ (K.trans (by repeat (first | exact KB.refl _ _ | refine KB.alloc ?_ _))) (clsat1 (W := W1) hc0)).mono ?_
    rintro e W2 ⟨rfl, hkk⟩
    have kk : KB F0 W1 W2 := KB.trans (by repeat (first | exact KB.refl _ _ | refine KB.alloc ?_ _)) hkk
    replace c2 := kk.cell (p := ⟨w.heap.size, 2, none⟩) (fun x => x) c2
    replace c3 := kk.cell (p := ⟨w.heap.size, 3, none⟩) (fun x => x) c3
    replace K := K.trans kk
    clear kk hkk
    go_wp2_with fail
    go_ret
    exact ⟨ret_eq (by rw [Hr.out]; rfl), K⟩
set_option maxRecDepth 100000 in
set_option maxHeartbeats 40000000 in
theorem asks_g19 (hs : s.size ≤ 9223372036854775807) (hl : l.length ≤ 9223372036854775807) (ha : KindsAt w a l) (hT : Tab w) (hn1 : -9223372036854775808 ≤ n) (hn2 : n ≤ 9223372036854775807) (k : Nat) (ki : Int) (hk : k = 19 ∧ ki = 19 ∨ k = 20 ∧ ki = 20 ∨ k = 37 ∧ ki = 37) :
    Calls Tryz.prog 117 #[.agg #[.int .u8 ki, .int .i64 at_, .int .i64 n, .string s, .slice la ll lc], .slice a l.length cap] w fun e w' => e = .returned (.bool (askB k n s l)) ∧ KB F0 w w' := by
  have Hr : Hid (askB k n s l = (len0B l && emptyB s && decide ((0 : Int) ≤ n) && decide (n ≤ (0 : Int)))) := Lib.hid (by rcases hk with ⟨rfl, rfl⟩ | ⟨rfl, rfl⟩ | ⟨rfl, rfl⟩ <;> rfl)
  obtain ⟨B0, HB0, K, -, -, c2, c3, HB0s⟩ := boxN w ki at_ n s la ll lc
  have t0 : ((l.length : Int) == 0) = len0B l := deq1 rfl
  generalize len0B l = b0 at t0 Hr
  have tE : s.toList.isEmpty = emptyB s := rfl
  generalize emptyB s = bE at tE Hr
  obtain ⟨b1, hb1⟩ : ∃ b, decide ((0 : Int) ≤ n) = b := ⟨_, rfl⟩
  obtain ⟨b2, hb2⟩ : ∃ b, decide (n ≤ (0 : Int)) = b := ⟨_, rfl⟩
  rw [hb1, hb2] at Hr
  clear ha hT
  rcases hk with ⟨rfl, rfl⟩ | ⟨rfl, rfl⟩ | ⟨rfl, rfl⟩
  all_goals
    rcases (show (b0 = false) ∨ (b0 = true ∧ bE = false) ∨ (b0 = true ∧ bE = true ∧ b1 = false) ∨ (b0 = true ∧ bE = true ∧ b1 = true ∧ b2 = false) ∨ (b0 = true ∧ bE = true ∧ b1 = true ∧ b2 = true) by cases b0 <;> cases bE <;> cases b1 <;> cases b2 <;> simp) with rfl | ⟨rfl, rfl⟩ | ⟨rfl, rfl, rfl⟩ | ⟨rfl, rfl, rfl, rfl⟩ | ⟨rfl, rfl, rfl, rfl⟩
    all_goals
      go_enter Tryz.func117, Tryz.ntmps117
      go_wp2_with fail
      rw [← HB0.out]
      try rw [HB0s.out]
      go_ret
      exact ⟨ret_eq (by rw [Hr.out]; rfl), K⟩
set_option maxRecDepth 100000 in
set_option maxHeartbeats 40000000 in
theorem asks_g21 (hs : s.size ≤ 9223372036854775807) (hl : l.length ≤ 9223372036854775807) (ha : KindsAt w a l) (hT : Tab w) (hn1 : -9223372036854775808 ≤ n) (hn2 : n ≤ 9223372036854775807) (k : Nat) (ki : Int) (hk : k = 21 ∧ ki = 21 ∨ k = 22 ∧ ki = 22 ∨ k = 28 ∧ ki = 28 ∨ k = 30 ∧ ki = 30 ∨ k = 31 ∧ ki = 31 ∨ k = 36 ∧ ki = 36) :
    Calls Tryz.prog 117 #[.agg #[.int .u8 ki, .int .i64 at_, .int .i64 n, .string s, .slice la ll lc], .slice a l.length cap] w fun e w' => e = .returned (.bool (askB k n s l)) ∧ KB F0 w w' := by
  have Hr : Hid (askB k n s l = (justB l [.ex] && emptyB s && decide ((0 : Int) ≤ n) && decide (n ≤ (0 : Int)))) := Lib.hid (by rcases hk with ⟨rfl, rfl⟩ | ⟨rfl, rfl⟩ | ⟨rfl, rfl⟩ | ⟨rfl, rfl⟩ | ⟨rfl, rfl⟩ | ⟨rfl, rfl⟩ <;> rfl)
  obtain ⟨B0, HB0, K, -, -, c2, c3, HB0s⟩ := boxN w ki at_ n s la ll lc
  have HJ := Lib.hid (fun W a2 cap2 (hk : KB F0 w W) (hc : ClsAt W a2 [.ex]) => justV a a2 l [.ex] cap cap2 W hl (by decide) (ha.kbF hk) hc)
  generalize justB l [.ex] = b0 at HJ Hr
  have tE : s.toList.isEmpty = emptyB s := rfl
  generalize emptyB s = bE at tE Hr
  obtain ⟨b1, hb1⟩ : ∃ b, decide ((0 : Int) ≤ n) = b := ⟨_, rfl⟩
  obtain ⟨b2, hb2⟩ : ∃ b, decide (n ≤ (0 : Int)) = b := ⟨_, rfl⟩
  rw [hb1, hb2] at Hr
  clear ha hT
  rcases hk with ⟨rfl, rfl⟩ | ⟨rfl, rfl⟩ | ⟨rfl, rfl⟩ | ⟨rfl, rfl⟩ | ⟨rfl, rfl⟩ | ⟨rfl, rfl⟩
  all_goals
    rcases (show (b0 = false) ∨ (b0 = true ∧ bE = false) ∨ (b0 = true ∧ bE = true ∧ b1 = false) ∨ (b0 = true ∧ bE = true ∧ b1 = true ∧ b2 = false) ∨ (b0 = true ∧ bE = true ∧ b1 = true ∧ b2 = true) by cases b0 <;> cases bE <;> cases b1 <;> cases b2 <;> simp) with rfl | ⟨rfl, rfl⟩ | ⟨rfl, rfl, rfl⟩ | ⟨rfl, rfl, rfl, rfl⟩ | ⟨rfl, rfl, rfl, rfl⟩
    all_goals
      go_enter Tryz.func117, Tryz.ntmps117
      go_wp2_with fail
      rw [← HB0.out]
      try rw [HB0s.out]
      refine (HJ.out _ _ _ (K.trans (by repeat (first | exact KB.refl _ _ | refine KB.alloc ?_ _))) (clsat1 (W := B0) (show ClsV _ (.func (.func 158) #[] #[]) .ex from rfl))).mono ?_
      rintro e W1 ⟨rfl, hkk⟩
      have kk : KB F0 B0 W1 := KB.trans (by repeat (first | exact KB.refl _ _ | refine KB.alloc ?_ _)) hkk
      replace c2 := kk.cell (p := ⟨w.heap.size, 2, none⟩) (fun x => x) c2
      replace c3 := kk.cell (p := ⟨w.heap.size, 3, none⟩) (fun x => x) c3
      replace K := K.trans kk
      clear kk hkk
      go_wp2_with fail
      go_ret
      exact ⟨ret_eq (by rw [Hr.out]; rfl), K⟩
set_option maxRecDepth 100000 in
set_option maxHeartbeats 40000000 in
theorem asks_g23 (hs : s.size ≤ 9223372036854775807) (hl : l.length ≤ 9223372036854775807) (ha : KindsAt w a l) (hT : Tab w) (hn1 : -9223372036854775808 ≤ n) (hn2 : n ≤ 9223372036854775807) (k : Nat) (ki : Int) (hk : k = 23 ∧ ki = 23) :
    Calls Tryz.prog 117 #[.agg #[.int .u8 ki, .int .i64 at_, .int .i64 n, .string s, .slice la ll lc], .slice a l.length cap] w fun e w' => e = .returned (.bool (askB k n s l)) ∧ KB F0 w w' := by
  have Hr : Hid (askB k n s l = (justB l [.kd [33]] && emptyB s && decide ((0 : Int) ≤ n) && decide (n ≤ (0 : Int)))) := Lib.hid (by rcases hk with ⟨rfl, rfl⟩ <;> rfl)
  obtain ⟨B0, HB0, K, -, -, c2, c3, HB0s⟩ := boxN w ki at_ n s la ll lc
  have HJ := Lib.hid (fun W a2 cap2 (hk : KB F0 w W) (hc : ClsAt W a2 [.kd [33]]) => justV a a2 l [.kd [33]] cap cap2 W hl (by decide) (ha.kbF hk) hc)
  generalize justB l [.kd [33]] = b0 at HJ Hr
  have tE : s.toList.isEmpty = emptyB s := rfl
  generalize emptyB s = bE at tE Hr
  obtain ⟨b1, hb1⟩ : ∃ b, decide ((0 : Int) ≤ n) = b := ⟨_, rfl⟩
  obtain ⟨b2, hb2⟩ : ∃ b, decide (n ≤ (0 : Int)) = b := ⟨_, rfl⟩
  rw [hb1, hb2] at Hr
  clear ha hT
  obtain ⟨rfl, rfl⟩ := hk
  rcases (show (b0 = false) ∨ (b0 = true ∧ bE = false) ∨ (b0 = true ∧ bE = true ∧ b1 = false) ∨ (b0 = true ∧ bE = true ∧ b1 = true ∧ b2 = false) ∨ (b0 = true ∧ bE = true ∧ b1 = true ∧ b2 = true) by cases b0 <;> cases bE <;> cases b1 <;> cases b2 <;> simp) with rfl | ⟨rfl, rfl⟩ | ⟨rfl, rfl, rfl⟩ | ⟨rfl, rfl, rfl, rfl⟩ | ⟨rfl, rfl, rfl, rfl⟩
  all_goals
    go_enter Tryz.func117, Tryz.ntmps117
    go_wp2_with fail
    rw [← HB0.out]
    try rw [HB0s.out]
    refine (kindCall (ks := [33]) _ (by decide) (alloc_new B0 _)).mono ?_
    rintro e W1 ⟨kb1, rfl, hc0, hkk⟩
    have kk : KB F0 B0 W1 := KB.trans (by repeat (first | exact KB.refl _ _ | refine KB.alloc ?_ _)) hkk
    replace c2 := kk.cell (p := ⟨w.heap.size, 2, none⟩) (fun x => x) c2
    replace c3 := kk.cell (p := ⟨w.heap.size, 3, none⟩) (fun x => x) c3
    replace K := K.trans kk
    clear kk hkk
    go_wp2_with fail
    refine (HJ.out _ _ _ (K.trans (by repeat (first | exact KB.refl _ _ | refine KB.alloc ?_ _))) (clsat1 (W := W1) hc0)).mono ?_
    rintro e W2 ⟨rfl, hkk⟩
    have kk : KB F0 W1 W2 := KB.trans (by repeat (first | exact KB.refl _ _ | refine KB.alloc ?_ _)) hkk
    replace c2 := kk.cell (p := ⟨w.heap.size, 2, none⟩) (fun x => x) c2
    replace c3 := kk.cell (p := ⟨w.heap.size, 3, none⟩) (fun x => x) c3
    replace K := K.trans kk
    clear kk hkk
    go_wp2_with fail
    go_ret
    exact ⟨ret_eq (by rw [Hr.out]; rfl), K⟩
set_option maxRecDepth 100000 in
set_option maxHeartbeats 40000000 in
theorem asks_g24 (hs : s.size ≤ 9223372036854775807) (hl : l.length ≤ 9223372036854775807) (ha : KindsAt w a l) (hT : Tab w) (hn1 : -9223372036854775808 ≤ n) (hn2 : n ≤ 9223372036854775807) (k : Nat) (ki : Int) (hk : k = 24 ∧ ki = 24) :
    Calls Tryz.prog 117 #[.agg #[.int .u8 ki, .int .i64 at_, .int .i64 n, .string s, .slice la ll lc], .slice a l.length cap] w fun e w' => e = .returned (.bool (askB k n s l)) ∧ KB F0 w w' := by
  have Hr : Hid (askB k n s l = (len0B l && emptyB s && decide ((0 : Int) ≤ n) && decide (n ≤ (9223372036854775807 : Int)))) := Lib.hid (by rcases hk with ⟨rfl, rfl⟩ <;> rfl)
  obtain ⟨B0, HB0, K, -, -, c2, c3, HB0s⟩ := boxN w ki at_ n s la ll lc
  have t0 : ((l.length : Int) == 0) = len0B l := deq1 rfl
  generalize len0B l = b0 at t0 Hr
  have tE : s.toList.isEmpty = emptyB s := rfl
  generalize emptyB s = bE at tE Hr
  obtain ⟨b1, hb1⟩ : ∃ b, decide ((0 : Int) ≤ n) = b := ⟨_, rfl⟩
  have hb2 : decide (n ≤ (9223372036854775807 : Int)) = true := by simpa using hn2
  rw [hb1, hb2] at Hr
  clear ha hT
  obtain ⟨rfl, rfl⟩ := hk
  rcases (show (b0 = false) ∨ (b0 = true ∧ bE = false) ∨ (b0 = true ∧ bE = true ∧ b1 = false) ∨ (b0 = true ∧ bE = true ∧ b1 = true) by cases b0 <;> cases bE <;> cases b1 <;> simp) with rfl | ⟨rfl, rfl⟩ | ⟨rfl, rfl, rfl⟩ | ⟨rfl, rfl, rfl⟩
  all_goals
    go_enter Tryz.func117, Tryz.ntmps117
    go_wp2_with fail
    rw [← HB0.out]
    try rw [HB0s.out]
    go_ret
    exact ⟨ret_eq (by rw [Hr.out]; rfl), K⟩
set_option maxRecDepth 100000 in
set_option maxHeartbeats 40000000 in
theorem asks_g25 (hs : s.size ≤ 9223372036854775807) (hl : l.length ≤ 9223372036854775807) (ha : KindsAt w a l) (hT : Tab w) (hn1 : -9223372036854775808 ≤ n) (hn2 : n ≤ 9223372036854775807) (k : Nat) (ki : Int) (hk : k = 25 ∧ ki = 25) :
    Calls Tryz.prog 117 #[.agg #[.int .u8 ki, .int .i64 at_, .int .i64 n, .string s, .slice la ll lc], .slice a l.length cap] w fun e w' => e = .returned (.bool (askB k n s l)) ∧ KB F0 w w' := by
  have Hr : Hid (askB k n s l = (len0B l && emptyB s && decide ((0 : Int) ≤ n) && decide (n ≤ (1 : Int)))) := Lib.hid (by rcases hk with ⟨rfl, rfl⟩ <;> rfl)
  obtain ⟨B0, HB0, K, -, -, c2, c3, HB0s⟩ := boxN w ki at_ n s la ll lc
  have t0 : ((l.length : Int) == 0) = len0B l := deq1 rfl
  generalize len0B l = b0 at t0 Hr
  have tE : s.toList.isEmpty = emptyB s := rfl
  generalize emptyB s = bE at tE Hr
  obtain ⟨b1, hb1⟩ : ∃ b, decide ((0 : Int) ≤ n) = b := ⟨_, rfl⟩
  obtain ⟨b2, hb2⟩ : ∃ b, decide (n ≤ (1 : Int)) = b := ⟨_, rfl⟩
  rw [hb1, hb2] at Hr
  clear ha hT
  obtain ⟨rfl, rfl⟩ := hk
  rcases (show (b0 = false) ∨ (b0 = true ∧ bE = false) ∨ (b0 = true ∧ bE = true ∧ b1 = false) ∨ (b0 = true ∧ bE = true ∧ b1 = true ∧ b2 = false) ∨ (b0 = true ∧ bE = true ∧ b1 = true ∧ b2 = true) by cases b0 <;> cases bE <;> cases b1 <;> cases b2 <;> simp) with rfl | ⟨rfl, rfl⟩ | ⟨rfl, rfl, rfl⟩ | ⟨rfl, rfl, rfl, rfl⟩ | ⟨rfl, rfl, rfl, rfl⟩
  all_goals
    go_enter Tryz.func117, Tryz.ntmps117
    go_wp2_with fail
    rw [← HB0.out]
    try rw [HB0s.out]
    go_ret
    exact ⟨ret_eq (by rw [Hr.out]; rfl), K⟩
set_option maxRecDepth 100000 in
set_option maxHeartbeats 40000000 in
theorem asks_g26 (hs : s.size ≤ 9223372036854775807) (hl : l.length ≤ 9223372036854775807) (ha : KindsAt w a l) (hT : Tab w) (hn1 : -9223372036854775808 ≤ n) (hn2 : n ≤ 9223372036854775807) (k : Nat) (ki : Int) (hk : k = 26 ∧ ki = 26) :
    Calls Tryz.prog 117 #[.agg #[.int .u8 ki, .int .i64 at_, .int .i64 n, .string s, .slice la ll lc], .slice a l.length cap] w fun e w' => e = .returned (.bool (askB k n s l)) ∧ KB F0 w w' := by
  have Hr : Hid (askB k n s l = (len0B l && nameB s && decide ((0 : Int) ≤ n) && decide (n ≤ (0 : Int)))) := Lib.hid (by rcases hk with ⟨rfl, rfl⟩ <;> rfl)
  obtain ⟨B0, HB0, K, -, -, c2, c3, HB0s⟩ := boxN w ki at_ n s la ll lc
  have HN := Lib.hid (fun W (hk : KB F0 w W) => name_any s W hs (hT.kb hk))
  have t0 : ((l.length : Int) == 0) = len0B l := deq1 rfl
  generalize len0B l = b0 at t0 Hr
  generalize nameB s = bN at HN Hr
  obtain ⟨b1, hb1⟩ : ∃ b, decide ((0 : Int) ≤ n) = b := ⟨_, rfl⟩
  obtain ⟨b2, hb2⟩ : ∃ b, decide (n ≤ (0 : Int)) = b := ⟨_, rfl⟩
  rw [hb1, hb2] at Hr
  clear ha hT
  obtain ⟨rfl, rfl⟩ := hk
  rcases (show (b0 = false) ∨ (b0 = true ∧ bN = false) ∨ (b0 = true ∧ bN = true ∧ b1 = false) ∨ (b0 = true ∧ bN = true ∧ b1 = true ∧ b2 = false) ∨ (b0 = true ∧ bN = true ∧ b1 = true ∧ b2 = true) by cases b0 <;> cases bN <;> cases b1 <;> cases b2 <;> simp) with rfl | ⟨rfl, rfl⟩ | ⟨rfl, rfl, rfl⟩ | ⟨rfl, rfl, rfl, rfl⟩ | ⟨rfl, rfl, rfl, rfl⟩
  all_goals
    go_enter Tryz.func117, Tryz.ntmps117
    go_wp2_with fail
    rw [← HB0.out]
    try rw [HB0s.out]
    refine (HN.out _ (K.trans (by repeat (first | exact KB.refl _ _ | refine KB.alloc ?_ _)))).mono ?_
    rintro e W1 ⟨rfl, hkk⟩
    have kk : KB F0 B0 W1 := KB.trans (by repeat (first | exact KB.refl _ _ | refine KB.alloc ?_ _)) hkk
    replace c2 := kk.cell (p := ⟨w.heap.size, 2, none⟩) (fun x => x) c2
    replace c3 := kk.cell (p := ⟨w.heap.size, 3, none⟩) (fun x => x) c3
    replace K := K.trans kk
    clear kk hkk
    go_wp2_with fail
    go_ret
    exact ⟨ret_eq (by rw [Hr.out]; rfl), K⟩
set_option maxRecDepth 100000 in
set_option maxHeartbeats 40000000 in
theorem asks_g27 (hs : s.size ≤ 9223372036854775807) (hl : l.length ≤ 9223372036854775807) (ha : KindsAt w a l) (hT : Tab w) (hn1 : -9223372036854775808 ≤ n) (hn2 : n ≤ 9223372036854775807) (k : Nat) (ki : Int) (hk : k = 27 ∧ ki = 27 ∨ k = 35 ∧ ki = 35) :
    Calls Tryz.prog 117 #[.agg #[.int .u8 ki, .int .i64 at_, .int .i64 n, .string s, .slice la ll lc], .slice a l.length cap] w fun e w' => e = .returned (.bool (askB k n s l)) ∧ KB F0 w w' := by
  have Hr : Hid (askB k n s l = (justB l [.ex] && nameB s && decide ((0 : Int) ≤ n) && decide (n ≤ (0 : Int)))) := Lib.hid (by rcases hk with ⟨rfl, rfl⟩ | ⟨rfl, rfl⟩ <;> rfl)
  obtain ⟨B0, HB0, K, -, -, c2, c3, HB0s⟩ := boxN w ki at_ n s la ll lc
  have HN := Lib.hid (fun W (hk : KB F0 w W) => name_any s W hs (hT.kb hk))
  have HJ := Lib.hid (fun W a2 cap2 (hk : KB F0 w W) (hc : ClsAt W a2 [.ex]) => justV a a2 l [.ex] cap cap2 W hl (by decide) (ha.kbF hk) hc)
  generalize justB l [.ex] = b0 at HJ Hr
  generalize nameB s = bN at HN Hr
  obtain ⟨b1, hb1⟩ : ∃ b, decide ((0 : Int) ≤ n) = b := ⟨_, rfl⟩
  obtain ⟨b2, hb2⟩ : ∃ b, decide (n ≤ (0 : Int)) = b := ⟨_, rfl⟩
  rw [hb1, hb2] at Hr
  clear ha hT
  rcases hk with ⟨rfl, rfl⟩ | ⟨rfl, rfl⟩
  all_goals
    rcases (show (b0 = false) ∨ (b0 = true ∧ bN = false) ∨ (b0 = true ∧ bN = true ∧ b1 = false) ∨ (b0 = true ∧ bN = true ∧ b1 = true ∧ b2 = false) ∨ (b0 = true ∧ bN = true ∧ b1 = true ∧ b2 = true) by cases b0 <;> cases bN <;> cases b1 <;> cases b2 <;> simp) with rfl | ⟨rfl, rfl⟩ | ⟨rfl, rfl, rfl⟩ | ⟨rfl, rfl, rfl, rfl⟩ | ⟨rfl, rfl, rfl, rfl⟩
    all_goals
      go_enter Tryz.func117, Tryz.ntmps117
      go_wp2_with fail
      rw [← HB0.out]
      try rw [HB0s.out]
      refine (HN.out _ (K.trans (by repeat (first | exact KB.refl _ _ | refine KB.alloc ?_ _)))).mono ?_
      rintro e W1 ⟨rfl, hkk⟩
      have kk : KB F0 B0 W1 := KB.trans (by repeat (first | exact KB.refl _ _ | refine KB.alloc ?_ _)) hkk
      replace c2 := kk.cell (p := ⟨w.heap.size, 2, none⟩) (fun x => x) c2
      replace c3 := kk.cell (p := ⟨w.heap.size, 3, none⟩) (fun x => x) c3
      replace K := K.trans kk
      clear kk hkk
      go_wp2_with fail
      refine (HJ.out _ _ _ (K.trans (by repeat (first | exact KB.refl _ _ | refine KB.alloc ?_ _))) (clsat1 (W := W1) (show ClsV _ (.func (.func 158) #[] #[]) .ex from rfl))).mono ?_
      rintro e W2 ⟨rfl, hkk⟩
      have kk : KB F0 W1 W2 := KB.trans (by repeat (first | exact KB.refl _ _ | refine KB.alloc ?_ _)) hkk
      replace c2 := kk.cell (p := ⟨w.heap.size, 2, none⟩) (fun x => x) c2
      replace c3 := kk.cell (p := ⟨w.heap.size, 3, none⟩) (fun x => x) c3
      replace K := K.trans kk
      clear kk hkk
      go_wp2_with fail
      go_ret
      exact ⟨ret_eq (by rw [Hr.out]; rfl), K⟩
set_option maxRecDepth 100000 in
set_option maxHeartbeats 40000000 in
theorem asks_g29 (hs : s.size ≤ 9223372036854775807) (hl : l.length ≤ 9223372036854775807) (ha : KindsAt w a l) (hT : Tab w) (hn1 : -9223372036854775808 ≤ n) (hn2 : n ≤ 9223372036854775807) (k : Nat) (ki : Int) (hk : k = 29 ∧ ki = 29) :
    Calls Tryz.prog 117 #[.agg #[.int .u8 ki, .int .i64 at_, .int .i64 n, .string s, .slice la ll lc], .slice a l.length cap] w fun e w' => e = .returned (.bool (askB k n s l)) ∧ KB F0 w w' := by
  have Hr : Hid (askB k n s l = (justB l [.ex] && emptyB s && decide ((0 : Int) ≤ n) && decide (n ≤ (1 : Int)))) := Lib.hid (by rcases hk with ⟨rfl, rfl⟩ <;> rfl)
  obtain ⟨B0, HB0, K, -, -, c2, c3, HB0s⟩ := boxN w ki at_ n s la ll lc
  have HJ := Lib.hid (fun W a2 cap2 (hk : KB F0 w W) (hc : ClsAt W a2 [.ex]) => justV a a2 l [.ex] cap cap2 W hl (by decide) (ha.kbF hk) hc)
  generalize justB l [.ex] = b0 at HJ Hr
  have tE : s.toList.isEmpty = emptyB s := rfl
  generalize emptyB s = bE at tE Hr
  obtain ⟨b1, hb1⟩ : ∃ b, decide ((0 : Int) ≤ n) = b := ⟨_, rfl⟩
  obtain ⟨b2, hb2⟩ : ∃ b, decide (n ≤ (1 : Int)) = b := ⟨_, rfl⟩
  rw [hb1, hb2] at Hr
  clear ha hT
  obtain ⟨rfl, rfl⟩ := hk
  rcases (show (b0 = false) ∨ (b0 = true ∧ bE = false) ∨ (b0 = true ∧ bE = true ∧ b1 = false) ∨ (b0 = true ∧ bE = true ∧ b1 = true ∧ b2 = false) ∨ (b0 = true ∧ bE = true ∧ b1 = true ∧ b2 = true) by cases b0 <;> cases bE <;> cases b1 <;> cases b2 <;> simp) with rfl | ⟨rfl, rfl⟩ | ⟨rfl, rfl, rfl⟩ | ⟨rfl, rfl, rfl, rfl⟩ | ⟨rfl, rfl, rfl, rfl⟩
  all_goals
    go_enter Tryz.func117, Tryz.ntmps117
    go_wp2_with fail
    rw [← HB0.out]
    try rw [HB0s.out]
    refine (HJ.out _ _ _ (K.trans (by repeat (first | exact KB.refl _ _ | refine KB.alloc ?_ _))) (clsat1 (W := B0) (show ClsV _ (.func (.func 158) #[] #[]) .ex from rfl))).mono ?_
    rintro e W1 ⟨rfl, hkk⟩
    have kk : KB F0 B0 W1 := KB.trans (by repeat (first | exact KB.refl _ _ | refine KB.alloc ?_ _)) hkk
    replace c2 := kk.cell (p := ⟨w.heap.size, 2, none⟩) (fun x => x) c2
    replace c3 := kk.cell (p := ⟨w.heap.size, 3, none⟩) (fun x => x) c3
    replace K := K.trans kk
    clear kk hkk
    go_wp2_with fail
    go_ret
    exact ⟨ret_eq (by rw [Hr.out]; rfl), K⟩
set_option maxRecDepth 100000 in
set_option maxHeartbeats 40000000 in
theorem asks_g33 (hs : s.size ≤ 9223372036854775807) (hl : l.length ≤ 9223372036854775807) (ha : KindsAt w a l) (hT : Tab w) (hn1 : -9223372036854775808 ≤ n) (hn2 : n ≤ 9223372036854775807) (k : Nat) (ki : Int) (hk : k = 33 ∧ ki = 33) :
    Calls Tryz.prog 117 #[.agg #[.int .u8 ki, .int .i64 at_, .int .i64 n, .string s, .slice la ll lc], .slice a l.length cap] w fun e w' => e = .returned (.bool (askB k n s l)) ∧ KB F0 w w' := by
  have Hr : Hid (askB k n s l = (askedB l 0 8 (.ex) && nameB s && decide ((0 : Int) ≤ n) && decide (n ≤ (0 : Int)))) := Lib.hid (by rcases hk with ⟨rfl, rfl⟩ <;> rfl)
  obtain ⟨B0, HB0, K, -, -, c2, c3, HB0s⟩ := boxN w ki at_ n s la ll lc
  have HN := Lib.hid (fun W (hk : KB F0 w W) => name_any s W hs (hT.kb hk))
  have HA := Lib.hid (fun W v (hk : KB F0 w W) (hv : ClsV W v (.ex)) => asked_any a l cap 0 8 v (.ex) W hl (ha.kbF hk) hv)
  generalize askedB l 0 8 (.ex) = b0 at HA Hr
  generalize nameB s = bN at HN Hr
  obtain ⟨b1, hb1⟩ : ∃ b, decide ((0 : Int) ≤ n) = b := ⟨_, rfl⟩
  obtain ⟨b2, hb2⟩ : ∃ b, decide (n ≤ (0 : Int)) = b := ⟨_, rfl⟩
  rw [hb1, hb2] at Hr
  clear ha hT
  obtain ⟨rfl, rfl⟩ := hk
  rcases (show (b0 = false) ∨ (b0 = true ∧ bN = false) ∨ (b0 = true ∧ bN = true ∧ b1 = false) ∨ (b0 = true ∧ bN = true ∧ b1 = true ∧ b2 = false) ∨ (b0 = true ∧ bN = true ∧ b1 = true ∧ b2 = true) by cases b0 <;> cases bN <;> cases b1 <;> cases b2 <;> simp) with rfl | ⟨rfl, rfl⟩ | ⟨rfl, rfl, rfl⟩ | ⟨rfl, rfl, rfl, rfl⟩ | ⟨rfl, rfl, rfl, rfl⟩
  all_goals
    go_enter Tryz.func117, Tryz.ntmps117
    go_wp2_with fail
    rw [← HB0.out]
    try rw [HB0s.out]
    refine (HN.out _ (K.trans (by repeat (first | exact KB.refl _ _ | refine KB.alloc ?_ _)))).mono ?_
    rintro e W1 ⟨rfl, hkk⟩
    have kk : KB F0 B0 W1 := KB.trans (by repeat (first | exact KB.refl _ _ | refine KB.alloc ?_ _)) hkk
    replace c2 := kk.cell (p := ⟨w.heap.size, 2, none⟩) (fun x => x) c2
    replace c3 := kk.cell (p := ⟨w.heap.size, 3, none⟩) (fun x => x) c3
    replace K := K.trans kk
    clear kk hkk
    go_wp2_with fail
    refine (HA.out _ _ (K.trans (by repeat (first | exact KB.refl _ _ | refine KB.alloc ?_ _))) (show ClsV _ (.func (.func 158) #[] #[]) .ex from rfl)).mono ?_
    rintro e W2 ⟨rfl, hkk⟩
    have kk : KB F0 W1 W2 := KB.trans (by repeat (first | exact KB.refl _ _ | refine KB.alloc ?_ _)) hkk
    replace c2 := kk.cell (p := ⟨w.heap.size, 2, none⟩) (fun x => x) c2
    replace c3 := kk.cell (p := ⟨w.heap.size, 3, none⟩) (fun x => x) c3
    replace K := K.trans kk
    clear kk hkk
    go_wp2_with fail
    go_ret
    exact ⟨ret_eq (by rw [Hr.out]; rfl), K⟩
set_option maxRecDepth 100000 in
set_option maxHeartbeats 40000000 in
theorem asks_g34 (hs : s.size ≤ 9223372036854775807) (hl : l.length ≤ 9223372036854775807) (ha : KindsAt w a l) (hT : Tab w) (hn1 : -9223372036854775808 ≤ n) (hn2 : n ≤ 9223372036854775807) (k : Nat) (ki : Int) (hk : k = 34 ∧ ki = 34) :
    Calls Tryz.prog 117 #[.agg #[.int .u8 ki, .int .i64 at_, .int .i64 n, .string s, .slice la ll lc], .slice a l.length cap] w fun e w' => e = .returned (.bool (askB k n s l)) ∧ KB F0 w w' := by
  have Hr : Hid (askB k n s l = (askedB l 1 8 (.kd [35]) && typeNameB s && decide ((0 : Int) ≤ n) && decide (n ≤ (0 : Int)))) := Lib.hid (by rcases hk with ⟨rfl, rfl⟩ <;> rfl)
  obtain ⟨B0, HB0, K, -, -, c2, c3, HB0s⟩ := boxN w ki at_ n s la ll lc
  have HT := Lib.hid (fun W (_ : KB F0 w W) => typeNameV s W hs)
  have HA := Lib.hid (fun W v (hk : KB F0 w W) (hv : ClsV W v (.kd [35])) => asked_any a l cap 1 8 v (.kd [35]) W hl (ha.kbF hk) hv)
  generalize askedB l 1 8 (.kd [35]) = b0 at HA Hr
  generalize typeNameB s = bN at HT Hr
  obtain ⟨b1, hb1⟩ : ∃ b, decide ((0 : Int) ≤ n) = b := ⟨_, rfl⟩
  obtain ⟨b2, hb2⟩ : ∃ b, decide (n ≤ (0 : Int)) = b := ⟨_, rfl⟩
  rw [hb1, hb2] at Hr
  clear ha hT
  obtain ⟨rfl, rfl⟩ := hk
  rcases (show (b0 = false) ∨ (b0 = true ∧ bN = false) ∨ (b0 = true ∧ bN = true ∧ b1 = false) ∨ (b0 = true ∧ bN = true ∧ b1 = true ∧ b2 = false) ∨ (b0 = true ∧ bN = true ∧ b1 = true ∧ b2 = true) by cases b0 <;> cases bN <;> cases b1 <;> cases b2 <;> simp) with rfl | ⟨rfl, rfl⟩ | ⟨rfl, rfl, rfl⟩ | ⟨rfl, rfl, rfl, rfl⟩ | ⟨rfl, rfl, rfl, rfl⟩
  all_goals
    go_enter Tryz.func117, Tryz.ntmps117
    go_wp2_with fail
    rw [← HB0.out]
    try rw [HB0s.out]
    refine (HT.out _ (K.trans (by repeat (first | exact KB.refl _ _ | refine KB.alloc ?_ _)))).mono ?_
    rintro e W1 ⟨rfl, hkk⟩
    have kk : KB F0 B0 W1 := KB.trans (by repeat (first | exact KB.refl _ _ | refine KB.alloc ?_ _)) hkk
    replace c2 := kk.cell (p := ⟨w.heap.size, 2, none⟩) (fun x => x) c2
    replace c3 := kk.cell (p := ⟨w.heap.size, 3, none⟩) (fun x => x) c3
    replace K := K.trans kk
    clear kk hkk
    go_wp2_with fail
    refine (kindCall (ks := [35]) _ (by decide) (alloc_new W1 _)).mono ?_
    rintro e W2 ⟨kb2, rfl, hc0, hkk⟩
    have kk : KB F0 W1 W2 := KB.trans (by repeat (first | exact KB.refl _ _ | refine KB.alloc ?_ _)) hkk
    replace c2 := kk.cell (p := ⟨w.heap.size, 2, none⟩) (fun x => x) c2
    replace c3 := kk.cell (p := ⟨w.heap.size, 3, none⟩) (fun x => x) c3
    replace K := K.trans kk
    clear kk hkk
    go_wp2_with fail
    refine (HA.out _ _ (K.trans (by repeat (first | exact KB.refl _ _ | refine KB.alloc ?_ _))) hc0).mono ?_
    rintro e W3 ⟨rfl, hkk⟩
    have kk : KB F0 W2 W3 := KB.trans (by repeat (first | exact KB.refl _ _ | refine KB.alloc ?_ _)) hkk
    replace c2 := kk.cell (p := ⟨w.heap.size, 2, none⟩) (fun x => x) c2
    replace c3 := kk.cell (p := ⟨w.heap.size, 3, none⟩) (fun x => x) c3
    replace K := K.trans kk
    clear kk hkk
    go_wp2_with fail
    go_ret
    exact ⟨ret_eq (by rw [Hr.out]; rfl), K⟩
set_option maxRecDepth 100000 in
set_option maxHeartbeats 40000000 in
theorem asks_38 (k : Nat) (hk : 38 ≤ k) (hs : s.size ≤ 9223372036854775807) (hl : l.length ≤ 9223372036854775807) (ha : KindsAt w a l) (hT : Tab w) (hn1 : -9223372036854775808 ≤ n) (hn2 : n ≤ 9223372036854775807) :
    Calls Tryz.prog 117 #[.agg #[.int .u8 k, .int .i64 at_, .int .i64 n, .string s, .slice la ll lc], .slice a l.length cap] w fun e w' => e = .returned (.bool (askB k n s l)) ∧ KB F0 w w' := by
  have Hr : Hid (askB k n s l = (false && emptyB s && decide ((0 : Int) ≤ n) && decide (n ≤ (0 : Int)))) := Lib.hid (by unfold askB; rw [ask_big n s l hk])
  obtain ⟨B0, HB0, K, -, -, c2, c3, HB0s⟩ := boxN w k at_ n s la ll lc
  have tE : s.toList.isEmpty = emptyB s := rfl
  generalize emptyB s = bE at tE Hr
  have u0 : ((k : Int) == 13) = false := by simp; omega
  have u1 : ((k : Int) == 14) = false := by simp; omega
  have u2 : ((k : Int) == 15) = false := by simp; omega
  have u3 : ((k : Int) == 16) = false := by simp; omega
  have u4 : ((k : Int) == 17) = false := by simp; omega
  have u5 : ((k : Int) == 18) = false := by simp; omega
  have u6 : ((k : Int) == 21) = false := by simp; omega
  have u7 : ((k : Int) == 22) = false := by simp; omega
  have u8 : ((k : Int) == 28) = false := by simp; omega
  have u9 : ((k : Int) == 30) = false := by simp; omega
  have u10 : ((k : Int) == 31) = false := by simp; omega
  have u11 : ((k : Int) == 36) = false := by simp; omega
  have u12 : ((k : Int) == 23) = false := by simp; omega
  have u13 : ((k : Int) == 24) = false := by simp; omega
  have u14 : ((k : Int) == 25) = false := by simp; omega
  have u15 : ((k : Int) == 26) = false := by simp; omega
  have u16 : ((k : Int) == 27) = false := by simp; omega
  have u17 : ((k : Int) == 35) = false := by simp; omega
  have u18 : ((k : Int) == 29) = false := by simp; omega
  have u19 : ((k : Int) == 32) = false := by simp; omega
  have u20 : ((k : Int) == 33) = false := by simp; omega
  have u21 : ((k : Int) == 34) = false := by simp; omega
  have u22 : ((k : Int) == 19) = false := by simp; omega
  have u23 : ((k : Int) == 20) = false := by simp; omega
  have u24 : ((k : Int) == 37) = false := by simp; omega
  clear hk
  obtain ⟨b1, hb1⟩ : ∃ b, decide ((0 : Int) ≤ n) = b := ⟨_, rfl⟩
  obtain ⟨b2, hb2⟩ : ∃ b, decide (n ≤ (0 : Int)) = b := ⟨_, rfl⟩
  rw [hb1, hb2] at Hr
  clear ha hT
  go_enter Tryz.func117, Tryz.ntmps117
  go_wp2_with fail
  rw [← HB0.out]
  try rw [HB0s.out]
  go_ret
  exact ⟨ret_eq (by rw [Hr.out]; rfl), K⟩
end
end Go.Proofs.YtoophdcagpfmpaaGreatDoor

/- tree.asksItems at each kind of nodes but NFn. -/
import Derived.Test.YtoophdcagpfmpaaGreatDoorMg06
namespace Go.Proofs.YtoophdcagpfmpaaGreatDoor
open Go.RowKit
section
variable (at_ n : Int) (s : ByteArray) (la : Option Addr) (ll lc : Nat) (a : Option Addr) (l : List Nat) (cap : Nat) (w : World)
set_option maxRecDepth 100000 in
set_option maxHeartbeats 40000000 in
theorem asks_g1 (hs : s.size ≤ 9223372036854775807) (hl : l.length ≤ 9223372036854775807) (ha : KindsAt w a l) (hT : Tab w) (hn1 : -9223372036854775808 ≤ n) (hn2 : n ≤ 9223372036854775807) (k : Nat) (ki : Int) (hk : k = 1 ∧ ki = 1) :
    Calls Tryz.prog 118 #[.agg #[.int .u8 ki, .int .i64 at_, .int .i64 n, .string s, .slice la ll lc], .slice a l.length cap] w fun e w' => e = .returned (.bool (askB k n s l)) ∧ KB F0 w w' := by
  have Hr : Hid (askB k n s l = (askedB l 0 16384 (.kd [2, 4]) && emptyB s && decide ((0 : Int) ≤ n) && decide (n ≤ (0 : Int)))) := Lib.hid (by rcases hk with ⟨rfl, rfl⟩ <;> rfl)
  obtain ⟨B0, HB0, K, -, -, c2, c3, HB0s⟩ := boxN w ki at_ n s la ll lc
  have HA := Lib.hid (fun W v (hk : KB F0 w W) (hv : ClsV W v (.kd [2, 4])) => asked_any a l cap 0 16384 v (.kd [2, 4]) W hl (ha.kbF hk) hv)
  generalize askedB l 0 16384 (.kd [2, 4]) = b0 at HA Hr
  have tE : s.toList.isEmpty = emptyB s := rfl
  generalize emptyB s = bE at tE Hr
  obtain ⟨b1, hb1⟩ : ∃ b, decide ((0 : Int) ≤ n) = b := ⟨_, rfl⟩
  obtain ⟨b2, hb2⟩ : ∃ b, decide (n ≤ (0 : Int)) = b := ⟨_, rfl⟩
  rw [hb1, hb2] at Hr
  clear ha hT
  obtain ⟨rfl, rfl⟩ := hk
  rcases (show (b0 = false) ∨ (b0 = true ∧ bE = false) ∨ (b0 = true ∧ bE = true ∧ b1 = false) ∨ (b0 = true ∧ bE = true ∧ b1 = true ∧ b2 = false) ∨ (b0 = true ∧ bE = true ∧ b1 = true ∧ b2 = true) by cases b0 <;> cases bE <;> cases b1 <;> cases b2 <;> simp) with rfl | ⟨rfl, rfl⟩ | ⟨rfl, rfl, rfl⟩ | ⟨rfl, rfl, rfl, rfl⟩ | ⟨rfl, rfl, rfl, rfl⟩
  all_goals
    go_enter Tryz.func118, Tryz.ntmps118
    go_wp2_with fail
    rw [← HB0.out]
    try rw [HB0s.out]
    refine (kindCall (ks := [2, 4]) _ (by decide) (alloc_new B0 _)).mono ?_
    rintro e W1 ⟨kb1, rfl, hc0, hkk⟩
    have kk : KB F0 B0 W1 := KB.trans (by repeat (first | exact KB.refl _ _ | refine KB.alloc ?_ _)) hkk
    replace c2 := kk.cell (p := ⟨w.heap.size, 2, none⟩) (fun x => x) c2
    replace c3 := kk.cell (p := ⟨w.heap.size, 3, none⟩) (fun x => x) c3
    replace K := K.trans kk
    clear kk hkk
    go_wp2_with fail
    refine (HA.out _ _ (K.trans (by repeat (first | exact KB.refl _ _ | refine KB.alloc ?_ _))) hc0).mono ?_
    rintro e W2 ⟨rfl, hkk⟩
    have kk : KB F0 W1 W2 := KB.trans (by repeat (first | exact KB.refl _ _ | refine KB.alloc ?_ _)) hkk
    replace c2 := kk.cell (p := ⟨w.heap.size, 2, none⟩) (fun x => x) c2
    replace c3 := kk.cell (p := ⟨w.heap.size, 3, none⟩) (fun x => x) c3
    replace K := K.trans kk
    clear kk hkk
    go_wp2_with fail
    go_ret
    exact ⟨ret_eq (by rw [Hr.out]; rfl), K⟩
set_option maxRecDepth 100000 in
set_option maxHeartbeats 40000000 in
theorem asks_g2 (hs : s.size ≤ 9223372036854775807) (hl : l.length ≤ 9223372036854775807) (ha : KindsAt w a l) (hT : Tab w) (hn1 : -9223372036854775808 ≤ n) (hn2 : n ≤ 9223372036854775807) (k : Nat) (ki : Int) (hk : k = 2 ∧ ki = 2) :
    Calls Tryz.prog 118 #[.agg #[.int .u8 ki, .int .i64 at_, .int .i64 n, .string s, .slice la ll lc], .slice a l.length cap] w fun e w' => e = .returned (.bool (askB k n s l)) ∧ KB F0 w w' := by
  have Hr : Hid (askB k n s l = (askedB l 1 8 (.kd [3]) && typeNameB s && decide ((0 : Int) ≤ n) && decide (n ≤ (0 : Int)))) := Lib.hid (by rcases hk with ⟨rfl, rfl⟩ <;> rfl)
  obtain ⟨B0, HB0, K, -, -, c2, c3, HB0s⟩ := boxN w ki at_ n s la ll lc
  have HT := Lib.hid (fun W (_ : KB F0 w W) => typeNameV s W hs)
  have HA := Lib.hid (fun W v (hk : KB F0 w W) (hv : ClsV W v (.kd [3])) => asked_any a l cap 1 8 v (.kd [3]) W hl (ha.kbF hk) hv)
  generalize askedB l 1 8 (.kd [3]) = b0 at HA Hr
  generalize typeNameB s = bN at HT Hr
  obtain ⟨b1, hb1⟩ : ∃ b, decide ((0 : Int) ≤ n) = b := ⟨_, rfl⟩
  obtain ⟨b2, hb2⟩ : ∃ b, decide (n ≤ (0 : Int)) = b := ⟨_, rfl⟩
  rw [hb1, hb2] at Hr
  clear ha hT
  obtain ⟨rfl, rfl⟩ := hk
  rcases (show (b0 = false) ∨ (b0 = true ∧ bN = false) ∨ (b0 = true ∧ bN = true ∧ b1 = false) ∨ (b0 = true ∧ bN = true ∧ b1 = true ∧ b2 = false) ∨ (b0 = true ∧ bN = true ∧ b1 = true ∧ b2 = true) by cases b0 <;> cases bN <;> cases b1 <;> cases b2 <;> simp) with rfl | ⟨rfl, rfl⟩ | ⟨rfl, rfl, rfl⟩ | ⟨rfl, rfl, rfl, rfl⟩ | ⟨rfl, rfl, rfl, rfl⟩
  all_goals
    go_enter Tryz.func118, Tryz.ntmps118
    go_wp2_with fail
    rw [← HB0.out]
    try rw [HB0s.out]
    refine (HT.out _ (K.trans (by repeat (first | exact KB.refl _ _ | refine KB.alloc ?_ _)))).mono ?_
    rintro e W1 ⟨rfl, hkk⟩
    have kk : KB F0 B0 W1 := KB.trans (by repeat (first | exact KB.refl _ _ | refine KB.alloc ?_ _)) hkk
    replace c2 := kk.cell (p := ⟨w.heap.size, 2, none⟩) (fun x => x) c2
    replace c3 := kk.cell (p := ⟨w.heap.size, 3, none⟩) (fun x => x) c3
    replace K := K.trans kk
    clear kk hkk
    go_wp2_with fail
    refine (kindCall (ks := [3]) _ (by decide) (alloc_new W1 _)).mono ?_
    rintro e W2 ⟨kb2, rfl, hc0, hkk⟩
    have kk : KB F0 W1 W2 := KB.trans (by repeat (first | exact KB.refl _ _ | refine KB.alloc ?_ _)) hkk
    replace c2 := kk.cell (p := ⟨w.heap.size, 2, none⟩) (fun x => x) c2
    replace c3 := kk.cell (p := ⟨w.heap.size, 3, none⟩) (fun x => x) c3
    replace K := K.trans kk
    clear kk hkk
    go_wp2_with fail
    refine (HA.out _ _ (K.trans (by repeat (first | exact KB.refl _ _ | refine KB.alloc ?_ _))) hc0).mono ?_
    rintro e W3 ⟨rfl, hkk⟩
    have kk : KB F0 W2 W3 := KB.trans (by repeat (first | exact KB.refl _ _ | refine KB.alloc ?_ _)) hkk
    replace c2 := kk.cell (p := ⟨w.heap.size, 2, none⟩) (fun x => x) c2
    replace c3 := kk.cell (p := ⟨w.heap.size, 3, none⟩) (fun x => x) c3
    replace K := K.trans kk
    clear kk hkk
    go_wp2_with fail
    go_ret
    exact ⟨ret_eq (by rw [Hr.out]; rfl), K⟩
set_option maxRecDepth 100000 in
set_option maxHeartbeats 40000000 in
theorem asks_g3 (hs : s.size ≤ 9223372036854775807) (hl : l.length ≤ 9223372036854775807) (ha : KindsAt w a l) (hT : Tab w) (hn1 : -9223372036854775808 ≤ n) (hn2 : n ≤ 9223372036854775807) (k : Nat) (ki : Int) (hk : k = 3 ∧ ki = 3 ∨ k = 7 ∧ ki = 7) :
    Calls Tryz.prog 118 #[.agg #[.int .u8 ki, .int .i64 at_, .int .i64 n, .string s, .slice la ll lc], .slice a l.length cap] w fun e w' => e = .returned (.bool (askB k n s l)) ∧ KB F0 w w' := by
  have Hr : Hid (askB k n s l = (justB l [.ty] && nameB s && decide ((0 : Int) ≤ n) && decide (n ≤ (0 : Int)))) := Lib.hid (by rcases hk with ⟨rfl, rfl⟩ | ⟨rfl, rfl⟩ <;> rfl)
  obtain ⟨B0, HB0, K, -, -, c2, c3, HB0s⟩ := boxN w ki at_ n s la ll lc
  have HN := Lib.hid (fun W (hk : KB F0 w W) => name_any s W hs (hT.kb hk))
  have HJ := Lib.hid (fun W a2 cap2 (hk : KB F0 w W) (hc : ClsAt W a2 [.ty]) => justV a a2 l [.ty] cap cap2 W hl (by decide) (ha.kbF hk) hc)
  generalize justB l [.ty] = b0 at HJ Hr
  generalize nameB s = bN at HN Hr
  obtain ⟨b1, hb1⟩ : ∃ b, decide ((0 : Int) ≤ n) = b := ⟨_, rfl⟩
  obtain ⟨b2, hb2⟩ : ∃ b, decide (n ≤ (0 : Int)) = b := ⟨_, rfl⟩
  rw [hb1, hb2] at Hr
  clear ha hT
  rcases hk with ⟨rfl, rfl⟩ | ⟨rfl, rfl⟩
  all_goals
    rcases (show (b0 = false) ∨ (b0 = true ∧ bN = false) ∨ (b0 = true ∧ bN = true ∧ b1 = false) ∨ (b0 = true ∧ bN = true ∧ b1 = true ∧ b2 = false) ∨ (b0 = true ∧ bN = true ∧ b1 = true ∧ b2 = true) by cases b0 <;> cases bN <;> cases b1 <;> cases b2 <;> simp) with rfl | ⟨rfl, rfl⟩ | ⟨rfl, rfl, rfl⟩ | ⟨rfl, rfl, rfl, rfl⟩ | ⟨rfl, rfl, rfl, rfl⟩
    all_goals
      go_enter Tryz.func118, Tryz.ntmps118
      go_wp2_with fail
      rw [← HB0.out]
      try rw [HB0s.out]
      refine (HN.out _ (K.trans (by repeat (first | exact KB.refl _ _ | refine KB.alloc ?_ _)))).mono ?_
      rintro e W1 ⟨rfl, hkk⟩
      have kk : KB F0 B0 W1 := KB.trans (by repeat (first | exact KB.refl _ _ | refine KB.alloc ?_ _)) hkk
      replace c2 := kk.cell (p := ⟨w.heap.size, 2, none⟩) (fun x => x) c2
      replace c3 := kk.cell (p := ⟨w.heap.size, 3, none⟩) (fun x => x) c3
      replace K := K.trans kk
      clear kk hkk
      go_wp2_with fail
      refine (HJ.out _ _ _ (K.trans (by repeat (first | exact KB.refl _ _ | refine KB.alloc ?_ _))) (clsat1 (W := W1) (show ClsV _ (.func (.func 157) #[] #[]) .ty from rfl))).mono ?_
      rintro e W2 ⟨rfl, hkk⟩
      have kk : KB F0 W1 W2 := KB.trans (by repeat (first | exact KB.refl _ _ | refine KB.alloc ?_ _)) hkk
      replace c2 := kk.cell (p := ⟨w.heap.size, 2, none⟩) (fun x => x) c2
      replace c3 := kk.cell (p := ⟨w.heap.size, 3, none⟩) (fun x => x) c3
      replace K := K.trans kk
      clear kk hkk
      go_wp2_with fail
      go_ret
      exact ⟨ret_eq (by rw [Hr.out]; rfl), K⟩
set_option maxRecDepth 100000 in
set_option maxHeartbeats 40000000 in
theorem asks_g5 (hs : s.size ≤ 9223372036854775807) (hl : l.length ≤ 9223372036854775807) (ha : KindsAt w a l) (hT : Tab w) (hn1 : -9223372036854775808 ≤ n) (hn2 : n ≤ 9223372036854775807) (k : Nat) (ki : Int) (hk : k = 5 ∧ ki = 5) :
    Calls Tryz.prog 118 #[.agg #[.int .u8 ki, .int .i64 at_, .int .i64 n, .string s, .slice la ll lc], .slice a l.length cap] w fun e w' => e = .returned (.bool (askB k n s l)) ∧ KB F0 w w' := by
  have Hr : Hid (askB k n s l = (askedB l 0 8 (.kd [6]) && nameB s && decide ((0 : Int) ≤ n) && decide (n ≤ (0 : Int)))) := Lib.hid (by rcases hk with ⟨rfl, rfl⟩ <;> rfl)
  obtain ⟨B0, HB0, K, -, -, c2, c3, HB0s⟩ := boxN w ki at_ n s la ll lc
  have HN := Lib.hid (fun W (hk : KB F0 w W) => name_any s W hs (hT.kb hk))
  have HA := Lib.hid (fun W v (hk : KB F0 w W) (hv : ClsV W v (.kd [6])) => asked_any a l cap 0 8 v (.kd [6]) W hl (ha.kbF hk) hv)
  generalize askedB l 0 8 (.kd [6]) = b0 at HA Hr
  generalize nameB s = bN at HN Hr
  obtain ⟨b1, hb1⟩ : ∃ b, decide ((0 : Int) ≤ n) = b := ⟨_, rfl⟩
  obtain ⟨b2, hb2⟩ : ∃ b, decide (n ≤ (0 : Int)) = b := ⟨_, rfl⟩
  rw [hb1, hb2] at Hr
  clear ha hT
  obtain ⟨rfl, rfl⟩ := hk
  rcases (show (b0 = false) ∨ (b0 = true ∧ bN = false) ∨ (b0 = true ∧ bN = true ∧ b1 = false) ∨ (b0 = true ∧ bN = true ∧ b1 = true ∧ b2 = false) ∨ (b0 = true ∧ bN = true ∧ b1 = true ∧ b2 = true) by cases b0 <;> cases bN <;> cases b1 <;> cases b2 <;> simp) with rfl | ⟨rfl, rfl⟩ | ⟨rfl, rfl, rfl⟩ | ⟨rfl, rfl, rfl, rfl⟩ | ⟨rfl, rfl, rfl, rfl⟩
  all_goals
    go_enter Tryz.func118, Tryz.ntmps118
    go_wp2_with fail
    rw [← HB0.out]
    try rw [HB0s.out]
    refine (HN.out _ (K.trans (by repeat (first | exact KB.refl _ _ | refine KB.alloc ?_ _)))).mono ?_
    rintro e W1 ⟨rfl, hkk⟩
    have kk : KB F0 B0 W1 := KB.trans (by repeat (first | exact KB.refl _ _ | refine KB.alloc ?_ _)) hkk
    replace c2 := kk.cell (p := ⟨w.heap.size, 2, none⟩) (fun x => x) c2
    replace c3 := kk.cell (p := ⟨w.heap.size, 3, none⟩) (fun x => x) c3
    replace K := K.trans kk
    clear kk hkk
    go_wp2_with fail
    refine (kindCall (ks := [6]) _ (by decide) (alloc_new W1 _)).mono ?_
    rintro e W2 ⟨kb2, rfl, hc0, hkk⟩
    have kk : KB F0 W1 W2 := KB.trans (by repeat (first | exact KB.refl _ _ | refine KB.alloc ?_ _)) hkk
    replace c2 := kk.cell (p := ⟨w.heap.size, 2, none⟩) (fun x => x) c2
    replace c3 := kk.cell (p := ⟨w.heap.size, 3, none⟩) (fun x => x) c3
    replace K := K.trans kk
    clear kk hkk
    go_wp2_with fail
    refine (HA.out _ _ (K.trans (by repeat (first | exact KB.refl _ _ | refine KB.alloc ?_ _))) hc0).mono ?_
    rintro e W3 ⟨rfl, hkk⟩
    have kk : KB F0 W2 W3 := KB.trans (by repeat (first | exact KB.refl _ _ | refine KB.alloc ?_ _)) hkk
    replace c2 := kk.cell (p := ⟨w.heap.size, 2, none⟩) (fun x => x) c2
    replace c3 := kk.cell (p := ⟨w.heap.size, 3, none⟩) (fun x => x) c3
    replace K := K.trans kk
    clear kk hkk
    go_wp2_with fail
    go_ret
    exact ⟨ret_eq (by rw [Hr.out]; rfl), K⟩
set_option maxRecDepth 100000 in
set_option maxHeartbeats 40000000 in
theorem asks_g6 (hs : s.size ≤ 9223372036854775807) (hl : l.length ≤ 9223372036854775807) (ha : KindsAt w a l) (hT : Tab w) (hn1 : -9223372036854775808 ≤ n) (hn2 : n ≤ 9223372036854775807) (k : Nat) (ki : Int) (hk : k = 6 ∧ ki = 6) :
    Calls Tryz.prog 118 #[.agg #[.int .u8 ki, .int .i64 at_, .int .i64 n, .string s, .slice la ll lc], .slice a l.length cap] w fun e w' => e = .returned (.bool (askB k n s l)) ∧ KB F0 w w' := by
  have Hr : Hid (askB k n s l = (len0B l && nameB s && decide ((0 : Int) ≤ n) && decide (n ≤ (0 : Int)))) := Lib.hid (by rcases hk with ⟨rfl, rfl⟩ <;> rfl)
  obtain ⟨B0, HB0, K, -, -, c2, c3, HB0s⟩ := boxN w ki at_ n s la ll lc
  have HN := Lib.hid (fun W (hk : KB F0 w W) => name_any s W hs (hT.kb hk))
  have t0 : ((l.length : Int) == 0) = len0B l := deq1 rfl
  generalize len0B l = b0 at t0 Hr
  generalize nameB s = bN at HN Hr
  obtain ⟨b1, hb1⟩ : ∃ b, decide ((0 : Int) ≤ n) = b := ⟨_, rfl⟩
  obtain ⟨b2, hb2⟩ : ∃ b, decide (n ≤ (0 : Int)) = b := ⟨_, rfl⟩
  rw [hb1, hb2] at Hr
  clear ha hT
  obtain ⟨rfl, rfl⟩ := hk
  rcases (show (b0 = false) ∨ (b0 = true ∧ bN = false) ∨ (b0 = true ∧ bN = true ∧ b1 = false) ∨ (b0 = true ∧ bN = true ∧ b1 = true ∧ b2 = false) ∨ (b0 = true ∧ bN = true ∧ b1 = true ∧ b2 = true) by cases b0 <;> cases bN <;> cases b1 <;> cases b2 <;> simp) with rfl | ⟨rfl, rfl⟩ | ⟨rfl, rfl, rfl⟩ | ⟨rfl, rfl, rfl, rfl⟩ | ⟨rfl, rfl, rfl, rfl⟩
  all_goals
    go_enter Tryz.func118, Tryz.ntmps118
    go_wp2_with fail
    rw [← HB0.out]
    try rw [HB0s.out]
    refine (HN.out _ (K.trans (by repeat (first | exact KB.refl _ _ | refine KB.alloc ?_ _)))).mono ?_
    rintro e W1 ⟨rfl, hkk⟩
    have kk : KB F0 B0 W1 := KB.trans (by repeat (first | exact KB.refl _ _ | refine KB.alloc ?_ _)) hkk
    replace c2 := kk.cell (p := ⟨w.heap.size, 2, none⟩) (fun x => x) c2
    replace c3 := kk.cell (p := ⟨w.heap.size, 3, none⟩) (fun x => x) c3
    replace K := K.trans kk
    clear kk hkk
    go_wp2_with fail
    go_ret
    exact ⟨ret_eq (by rw [Hr.out]; rfl), K⟩
set_option maxRecDepth 100000 in
set_option maxHeartbeats 40000000 in
theorem asks_g8 (hs : s.size ≤ 9223372036854775807) (hl : l.length ≤ 9223372036854775807) (ha : KindsAt w a l) (hT : Tab w) (hn1 : -9223372036854775808 ≤ n) (hn2 : n ≤ 9223372036854775807) (k : Nat) (ki : Int) (hk : k = 8 ∧ ki = 8 ∨ k = 9 ∧ ki = 9) :
    Calls Tryz.prog 118 #[.agg #[.int .u8 ki, .int .i64 at_, .int .i64 n, .string s, .slice la ll lc], .slice a l.length cap] w fun e w' => e = .returned (.bool (askB k n s l)) ∧ KB F0 w w' := by
  have Hr : Hid (askB k n s l = (len0B l && emptyB s && decide ((0 : Int) ≤ n) && decide (n ≤ (0 : Int)))) := Lib.hid (by rcases hk with ⟨rfl, rfl⟩ | ⟨rfl, rfl⟩ <;> rfl)
  obtain ⟨B0, HB0, K, -, -, c2, c3, HB0s⟩ := boxN w ki at_ n s la ll lc
  have t0 : ((l.length : Int) == 0) = len0B l := deq1 rfl
  generalize len0B l = b0 at t0 Hr
  have tE : s.toList.isEmpty = emptyB s := rfl
  generalize emptyB s = bE at tE Hr
  obtain ⟨b1, hb1⟩ : ∃ b, decide ((0 : Int) ≤ n) = b := ⟨_, rfl⟩
  obtain ⟨b2, hb2⟩ : ∃ b, decide (n ≤ (0 : Int)) = b := ⟨_, rfl⟩
  rw [hb1, hb2] at Hr
  clear ha hT
  rcases hk with ⟨rfl, rfl⟩ | ⟨rfl, rfl⟩
  all_goals
    rcases (show (b0 = false) ∨ (b0 = true ∧ bE = false) ∨ (b0 = true ∧ bE = true ∧ b1 = false) ∨ (b0 = true ∧ bE = true ∧ b1 = true ∧ b2 = false) ∨ (b0 = true ∧ bE = true ∧ b1 = true ∧ b2 = true) by cases b0 <;> cases bE <;> cases b1 <;> cases b2 <;> simp) with rfl | ⟨rfl, rfl⟩ | ⟨rfl, rfl, rfl⟩ | ⟨rfl, rfl, rfl, rfl⟩ | ⟨rfl, rfl, rfl, rfl⟩
    all_goals
      go_enter Tryz.func118, Tryz.ntmps118
      go_wp2_with fail
      rw [← HB0.out]
      try rw [HB0s.out]
      go_ret
      exact ⟨ret_eq (by rw [Hr.out]; rfl), K⟩
set_option maxRecDepth 100000 in
set_option maxHeartbeats 40000000 in
theorem asks_g10 (hs : s.size ≤ 9223372036854775807) (hl : l.length ≤ 9223372036854775807) (ha : KindsAt w a l) (hT : Tab w) (hn1 : -9223372036854775808 ≤ n) (hn2 : n ≤ 9223372036854775807) (k : Nat) (ki : Int) (hk : k = 10 ∧ ki = 10) :
    Calls Tryz.prog 118 #[.agg #[.int .u8 ki, .int .i64 at_, .int .i64 n, .string s, .slice la ll lc], .slice a l.length cap] w fun e w' => e = .returned (.bool (askB k n s l)) ∧ KB F0 w w' := by
  have Hr : Hid (askB k n s l = (justB l [.ty] && emptyB s && decide ((0 : Int) ≤ n) && decide (n ≤ (0 : Int)))) := Lib.hid (by rcases hk with ⟨rfl, rfl⟩ <;> rfl)
  obtain ⟨B0, HB0, K, -, -, c2, c3, HB0s⟩ := boxN w ki at_ n s la ll lc
  have HJ := Lib.hid (fun W a2 cap2 (hk : KB F0 w W) (hc : ClsAt W a2 [.ty]) => justV a a2 l [.ty] cap cap2 W hl (by decide) (ha.kbF hk) hc)
  generalize justB l [.ty] = b0 at HJ Hr
  have tE : s.toList.isEmpty = emptyB s := rfl
  generalize emptyB s = bE at tE Hr
  obtain ⟨b1, hb1⟩ : ∃ b, decide ((0 : Int) ≤ n) = b := ⟨_, rfl⟩
  obtain ⟨b2, hb2⟩ : ∃ b, decide (n ≤ (0 : Int)) = b := ⟨_, rfl⟩
  rw [hb1, hb2] at Hr
  clear ha hT
  obtain ⟨rfl, rfl⟩ := hk
  rcases (show (b0 = false) ∨ (b0 = true ∧ bE = false) ∨ (b0 = true ∧ bE = true ∧ b1 = false) ∨ (b0 = true ∧ bE = true ∧ b1 = true ∧ b2 = false) ∨ (b0 = true ∧ bE = true ∧ b1 = true ∧ b2 = true) by cases b0 <;> cases bE <;> cases b1 <;> cases b2 <;> simp) with rfl | ⟨rfl, rfl⟩ | ⟨rfl, rfl, rfl⟩ | ⟨rfl, rfl, rfl, rfl⟩ | ⟨rfl, rfl, rfl, rfl⟩
  all_goals
    go_enter Tryz.func118, Tryz.ntmps118
    go_wp2_with fail
    rw [← HB0.out]
    try rw [HB0s.out]
    refine (HJ.out _ _ _ (K.trans (by repeat (first | exact KB.refl _ _ | refine KB.alloc ?_ _))) (clsat1 (W := B0) (show ClsV _ (.func (.func 157) #[] #[]) .ty from rfl))).mono ?_
    rintro e W1 ⟨rfl, hkk⟩
    have kk : KB F0 B0 W1 := KB.trans (by repeat (first | exact KB.refl _ _ | refine KB.alloc ?_ _)) hkk
    replace c2 := kk.cell (p := ⟨w.heap.size, 2, none⟩) (fun x => x) c2
    replace c3 := kk.cell (p := ⟨w.heap.size, 3, none⟩) (fun x => x) c3
    replace K := K.trans kk
    clear kk hkk
    go_wp2_with fail
    go_ret
    exact ⟨ret_eq (by rw [Hr.out]; rfl), K⟩
set_option maxRecDepth 100000 in
set_option maxHeartbeats 40000000 in
theorem asks_g11 (hs : s.size ≤ 9223372036854775807) (hl : l.length ≤ 9223372036854775807) (ha : KindsAt w a l) (hT : Tab w) (hn1 : -9223372036854775808 ≤ n) (hn2 : n ≤ 9223372036854775807) (k : Nat) (ki : Int) (hk : k = 11 ∧ ki = 11) :
    Calls Tryz.prog 118 #[.agg #[.int .u8 ki, .int .i64 at_, .int .i64 n, .string s, .slice la ll lc], .slice a l.length cap] w fun e w' => e = .returned (.bool (askB k n s l)) ∧ KB F0 w w' := by
  have Hr : Hid (askB k n s l = (justB l [.ty] && (emptyB s || nameB s) && decide ((0 : Int) ≤ n) && decide (n ≤ (1 : Int)))) := Lib.hid (by rcases hk with ⟨rfl, rfl⟩ <;> rfl)
  obtain ⟨B0, HB0, K, -, -, c2, c3, HB0s⟩ := boxN w ki at_ n s la ll lc
  have HN := Lib.hid (fun W (hk : KB F0 w W) => name_any s W hs (hT.kb hk))
  have HJ := Lib.hid (fun W a2 cap2 (hk : KB F0 w W) (hc : ClsAt W a2 [.ty]) => justV a a2 l [.ty] cap cap2 W hl (by decide) (ha.kbF hk) hc)
  generalize justB l [.ty] = b0 at HJ Hr
  have tE : s.toList.isEmpty = emptyB s := rfl
  generalize emptyB s = bE at tE Hr
  generalize nameB s = bN at HN Hr
  obtain ⟨b1, hb1⟩ : ∃ b, decide ((0 : Int) ≤ n) = b := ⟨_, rfl⟩
  obtain ⟨b2, hb2⟩ : ∃ b, decide (n ≤ (1 : Int)) = b := ⟨_, rfl⟩
  rw [hb1, hb2] at Hr
  clear ha hT
  obtain ⟨rfl, rfl⟩ := hk
  cases bE
  · rcases (show (b0 = false) ∨ (b0 = true ∧ bN = false) ∨ (b0 = true ∧ bN = true ∧ b1 = false) ∨ (b0 = true ∧ bN = true ∧ b1 = true ∧ b2 = false) ∨ (b0 = true ∧ bN = true ∧ b1 = true ∧ b2 = true) by cases b0 <;> cases bN <;> cases b1 <;> cases b2 <;> simp) with rfl | ⟨rfl, rfl⟩ | ⟨rfl, rfl, rfl⟩ | ⟨rfl, rfl, rfl, rfl⟩ | ⟨rfl, rfl, rfl, rfl⟩
    all_goals
      go_enter Tryz.func118, Tryz.ntmps118
      go_wp2_with fail
      rw [← HB0.out]
      try rw [HB0s.out]
      refine (HN.out _ (K.trans (by repeat (first | exact KB.refl _ _ | refine KB.alloc ?_ _)))).mono ?_
      rintro e W1 ⟨rfl, hkk⟩
      have kk : KB F0 B0 W1 := KB.trans (by repeat (first | exact KB.refl _ _ | refine KB.alloc ?_ _)) hkk
      replace c2 := kk.cell (p := ⟨w.heap.size, 2, none⟩) (fun x => x) c2
      replace c3 := kk.cell (p := ⟨w.heap.size, 3, none⟩) (fun x => x) c3
      replace K := K.trans kk
      clear kk hkk
      go_wp2_with fail
      refine (HJ.out _ _ _ (K.trans (by repeat (first | exact KB.refl _ _ | refine KB.alloc ?_ _))) (clsat1 (W := W1) (show ClsV _ (.func (.func 157) #[] #[]) .ty from rfl))).mono ?_
      rintro e W2 ⟨rfl, hkk⟩
      have kk : KB F0 W1 W2 := KB.trans (by repeat (first | exact KB.refl _ _ | refine KB.alloc ?_ _)) hkk
      replace c2 := kk.cell (p := ⟨w.heap.size, 2, none⟩) (fun x => x) c2
      replace c3 := kk.cell (p := ⟨w.heap.size, 3, none⟩) (fun x => x) c3
      replace K := K.trans kk
      clear kk hkk
      go_wp2_with fail
      go_ret
      exact ⟨ret_eq (by rw [Hr.out]; rfl), K⟩
  · rcases (show (b0 = false) ∨ (b0 = true ∧ b1 = false) ∨ (b0 = true ∧ b1 = true ∧ b2 = false) ∨ (b0 = true ∧ b1 = true ∧ b2 = true) by cases b0 <;> cases b1 <;> cases b2 <;> simp) with rfl | ⟨rfl, rfl⟩ | ⟨rfl, rfl, rfl⟩ | ⟨rfl, rfl, rfl⟩
    all_goals
      go_enter Tryz.func118, Tryz.ntmps118
      go_wp2_with fail
      rw [← HB0.out]
      try rw [HB0s.out]
      refine (HJ.out _ _ _ (K.trans (by repeat (first | exact KB.refl _ _ | refine KB.alloc ?_ _))) (clsat1 (W := B0) (show ClsV _ (.func (.func 157) #[] #[]) .ty from rfl))).mono ?_
      rintro e W1 ⟨rfl, hkk⟩
      have kk : KB F0 B0 W1 := KB.trans (by repeat (first | exact KB.refl _ _ | refine KB.alloc ?_ _)) hkk
      replace c2 := kk.cell (p := ⟨w.heap.size, 2, none⟩) (fun x => x) c2
      replace c3 := kk.cell (p := ⟨w.heap.size, 3, none⟩) (fun x => x) c3
      replace K := K.trans kk
      clear kk hkk
      go_wp2_with fail
      go_ret
      exact ⟨ret_eq (by rw [Hr.out]; rfl), K⟩
set_option maxRecDepth 100000 in
set_option maxHeartbeats 40000000 in
theorem asks_g12 (hs : s.size ≤ 9223372036854775807) (hl : l.length ≤ 9223372036854775807) (ha : KindsAt w a l) (hT : Tab w) (hn1 : -9223372036854775808 ≤ n) (hn2 : n ≤ 9223372036854775807) (k : Nat) (ki : Int) (hk : k = 12 ∧ ki = 12) :
    Calls Tryz.prog 118 #[.agg #[.int .u8 ki, .int .i64 at_, .int .i64 n, .string s, .slice la ll lc], .slice a l.length cap] w fun e w' => e = .returned (.bool (askB k n s l)) ∧ KB F0 w w' := by
  have Hr : Hid (askB k n s l = (len0B l && typeNameB s && decide ((0 : Int) ≤ n) && decide (n ≤ (0 : Int)))) := Lib.hid (by rcases hk with ⟨rfl, rfl⟩ <;> rfl)
  obtain ⟨B0, HB0, K, -, -, c2, c3, HB0s⟩ := boxN w ki at_ n s la ll lc
  have HT := Lib.hid (fun W (_ : KB F0 w W) => typeNameV s W hs)
  have t0 : ((l.length : Int) == 0) = len0B l := deq1 rfl
  generalize len0B l = b0 at t0 Hr
  generalize typeNameB s = bN at HT Hr
  obtain ⟨b1, hb1⟩ : ∃ b, decide ((0 : Int) ≤ n) = b := ⟨_, rfl⟩
  obtain ⟨b2, hb2⟩ : ∃ b, decide (n ≤ (0 : Int)) = b := ⟨_, rfl⟩
  rw [hb1, hb2] at Hr
  clear ha hT
  obtain ⟨rfl, rfl⟩ := hk
  rcases (show (b0 = false) ∨ (b0 = true ∧ bN = false) ∨ (b0 = true ∧ bN = true ∧ b1 = false) ∨ (b0 = true ∧ bN = true ∧ b1 = true ∧ b2 = false) ∨ (b0 = true ∧ bN = true ∧ b1 = true ∧ b2 = true) by cases b0 <;> cases bN <;> cases b1 <;> cases b2 <;> simp) with rfl | ⟨rfl, rfl⟩ | ⟨rfl, rfl, rfl⟩ | ⟨rfl, rfl, rfl, rfl⟩ | ⟨rfl, rfl, rfl, rfl⟩
  all_goals
    go_enter Tryz.func118, Tryz.ntmps118
    go_wp2_with fail
    rw [← HB0.out]
    try rw [HB0s.out]
    refine (HT.out _ (K.trans (by repeat (first | exact KB.refl _ _ | refine KB.alloc ?_ _)))).mono ?_
    rintro e W1 ⟨rfl, hkk⟩
    have kk : KB F0 B0 W1 := KB.trans (by repeat (first | exact KB.refl _ _ | refine KB.alloc ?_ _)) hkk
    replace c2 := kk.cell (p := ⟨w.heap.size, 2, none⟩) (fun x => x) c2
    replace c3 := kk.cell (p := ⟨w.heap.size, 3, none⟩) (fun x => x) c3
    replace K := K.trans kk
    clear kk hkk
    go_wp2_with fail
    go_ret
    exact ⟨ret_eq (by rw [Hr.out]; rfl), K⟩
set_option maxRecDepth 100000 in
set_option maxHeartbeats 40000000 in
theorem asks_0 (hs : s.size ≤ 9223372036854775807) (hl : l.length ≤ 9223372036854775807) (ha : KindsAt w a l) (hT : Tab w) (hn1 : -9223372036854775808 ≤ n) (hn2 : n ≤ 9223372036854775807) :
    Calls Tryz.prog 118 #[.agg #[.int .u8 0, .int .i64 at_, .int .i64 n, .string s, .slice la ll lc], .slice a l.length cap] w fun e w' => e = .returned (.bool (askB 0 n s l)) ∧ KB F0 w w' := by
  have Hr : Hid (askB 0 n s l = (false && emptyB s && decide ((0 : Int) ≤ n) && decide (n ≤ (0 : Int)))) := Lib.hid rfl
  obtain ⟨B0, HB0, K, -, -, c2, c3, HB0s⟩ := boxN w 0 at_ n s la ll lc
  have tE : s.toList.isEmpty = emptyB s := rfl
  generalize emptyB s = bE at tE Hr
  obtain ⟨b1, hb1⟩ : ∃ b, decide ((0 : Int) ≤ n) = b := ⟨_, rfl⟩
  obtain ⟨b2, hb2⟩ : ∃ b, decide (n ≤ (0 : Int)) = b := ⟨_, rfl⟩
  rw [hb1, hb2] at Hr
  clear ha hT
  go_enter Tryz.func118, Tryz.ntmps118
  go_wp2_with fail
  rw [← HB0.out]
  try rw [HB0s.out]
  go_ret
  exact ⟨ret_eq (by rw [Hr.out]; rfl), K⟩
end
end Go.Proofs.YtoophdcagpfmpaaGreatDoor

/- tree.asksItems, asksInside at NLet, NIf, NBin, NFn. -/
import Derived.Test.YtoophdcagpfmpaaGreatDoorMg06
namespace Go.Proofs.YtoophdcagpfmpaaGreatDoor
open Go.RowKit
section
variable (at_ n : Int) (s : ByteArray) (la : Option Addr) (ll lc : Nat) (a : Option Addr) (l : List Nat) (cap : Nat) (w : World)
set_option maxRecDepth 100000 in
set_option maxHeartbeats 40000000 in
theorem asks_14a (hs : s.size ≤ 9223372036854775807) (hl : l.length ≤ 9223372036854775807) (ha : KindsAt w a l) (hT : Tab w) (hn1 : -9223372036854775808 ≤ n) (hn2 : n ≤ 9223372036854775807) (hv : n = 1) :
    Calls Tryz.prog 117 #[.agg #[.int .u8 14, .int .i64 at_, .int .i64 n, .string s, .slice la ll lc], .slice a l.length cap] w fun e w' => e = .returned (.bool (askB 14 n s l)) ∧ KB F0 w w' := by
  have Hr : Hid (askB 14 n s l = (justB l [.ty] && nameB s && decide ((1 : Int) ≤ n) && decide (n ≤ (3 : Int)))) := Lib.hid (by rw [hv]; rfl)
  obtain ⟨B0, HB0, K, -, -, c2, c3, HB0s⟩ := boxN w 14 at_ n s la ll lc
  have HN := Lib.hid (fun W (hk : KB F0 w W) => name_any s W hs (hT.kb hk))
  have HJ := Lib.hid (fun W a2 cap2 (hk : KB F0 w W) (hc : ClsAt W a2 [.ty]) => justV a a2 l [.ty] cap cap2 W hl (by decide) (ha.kbF hk) hc)
  generalize justB l [.ty] = b0 at HJ Hr
  generalize nameB s = bN at HN Hr
  have hb1 : decide ((1 : Int) ≤ n) = true := by rw [hv]; rfl
  have hb2 : decide (n ≤ (3 : Int)) = true := by rw [hv]; rfl
  have q1 : (n == 1) = true := by rw [hv]; rfl
  clear hv
  rw [hb1, hb2] at Hr
  clear ha hT
  rcases (show (b0 = false) ∨ (b0 = true ∧ bN = false) ∨ (b0 = true ∧ bN = true) by cases b0 <;> cases bN <;> simp) with rfl | ⟨rfl, rfl⟩ | ⟨rfl, rfl⟩
  all_goals
    go_enter Tryz.func117, Tryz.ntmps117
    go_wp2_with fail
    rw [← HB0.out]
    try rw [HB0s.out]
    refine (HN.out _ (K.trans (by repeat (first | exact KB.refl _ _ | refine KB.alloc ?_ _)))).mono ?_
    rintro e W1 ⟨rfl, hkk⟩
    have kk : KB F0 B0 W1 := KB.trans (by repeat (first | exact KB.refl _ _ | refine KB.alloc ?_ _)) hkk
    replace c2 := kk.cell (p := ⟨w.heap.size, 2, none⟩) (fun x => x) c2
    replace c3 := kk.cell (p := ⟨w.heap.size, 3, none⟩) (fun x => x) c3
    replace K := K.trans kk
    clear kk hkk
    go_wp2_with fail
    refine (HJ.out _ _ _ (K.trans (by repeat (first | exact KB.refl _ _ | refine KB.alloc ?_ _))) (clsat1 (W := W1) (show ClsV _ (.func (.func 157) #[] #[]) .ty from rfl))).mono ?_
    rintro e W2 ⟨rfl, hkk⟩
    have kk : KB F0 W1 W2 := KB.trans (by repeat (first | exact KB.refl _ _ | refine KB.alloc ?_ _)) hkk
    replace c2 := kk.cell (p := ⟨w.heap.size, 2, none⟩) (fun x => x) c2
    replace c3 := kk.cell (p := ⟨w.heap.size, 3, none⟩) (fun x => x) c3
    replace K := K.trans kk
    clear kk hkk
    go_wp2_with fail
    go_ret
    exact ⟨ret_eq (by rw [Hr.out]; rfl), K⟩
set_option maxRecDepth 100000 in
set_option maxHeartbeats 40000000 in
theorem asks_14b (hs : s.size ≤ 9223372036854775807) (hl : l.length ≤ 9223372036854775807) (ha : KindsAt w a l) (hT : Tab w) (hn1 : -9223372036854775808 ≤ n) (hn2 : n ≤ 9223372036854775807) (hv : n = 2) :
    Calls Tryz.prog 117 #[.agg #[.int .u8 14, .int .i64 at_, .int .i64 n, .string s, .slice la ll lc], .slice a l.length cap] w fun e w' => e = .returned (.bool (askB 14 n s l)) ∧ KB F0 w w' := by
  have Hr : Hid (askB 14 n s l = (justB l [.ex] && nameB s && decide ((1 : Int) ≤ n) && decide (n ≤ (3 : Int)))) := Lib.hid (by rw [hv]; rfl)
  obtain ⟨B0, HB0, K, -, -, c2, c3, HB0s⟩ := boxN w 14 at_ n s la ll lc
  have HN := Lib.hid (fun W (hk : KB F0 w W) => name_any s W hs (hT.kb hk))
  have HJ := Lib.hid (fun W a2 cap2 (hk : KB F0 w W) (hc : ClsAt W a2 [.ex]) => justV a a2 l [.ex] cap cap2 W hl (by decide) (ha.kbF hk) hc)
  generalize justB l [.ex] = b0 at HJ Hr
  generalize nameB s = bN at HN Hr
  have hb1 : decide ((1 : Int) ≤ n) = true := by rw [hv]; rfl
  have hb2 : decide (n ≤ (3 : Int)) = true := by rw [hv]; rfl
  have q1 : (n == 1) = false := by rw [hv]; rfl
  have q2 : (n == 2) = true := by rw [hv]; rfl
  clear hv
  rw [hb1, hb2] at Hr
  clear ha hT
  rcases (show (b0 = false) ∨ (b0 = true ∧ bN = false) ∨ (b0 = true ∧ bN = true) by cases b0 <;> cases bN <;> simp) with rfl | ⟨rfl, rfl⟩ | ⟨rfl, rfl⟩
  all_goals
    go_enter Tryz.func117, Tryz.ntmps117
    go_wp2_with fail
    rw [← HB0.out]
    try rw [HB0s.out]
    refine (HN.out _ (K.trans (by repeat (first | exact KB.refl _ _ | refine KB.alloc ?_ _)))).mono ?_
    rintro e W1 ⟨rfl, hkk⟩
    have kk : KB F0 B0 W1 := KB.trans (by repeat (first | exact KB.refl _ _ | refine KB.alloc ?_ _)) hkk
    replace c2 := kk.cell (p := ⟨w.heap.size, 2, none⟩) (fun x => x) c2
    replace c3 := kk.cell (p := ⟨w.heap.size, 3, none⟩) (fun x => x) c3
    replace K := K.trans kk
    clear kk hkk
    go_wp2_with fail
    refine (HJ.out _ _ _ (K.trans (by repeat (first | exact KB.refl _ _ | refine KB.alloc ?_ _))) (clsat1 (W := W1) (show ClsV _ (.func (.func 158) #[] #[]) .ex from rfl))).mono ?_
    rintro e W2 ⟨rfl, hkk⟩
    have kk : KB F0 W1 W2 := KB.trans (by repeat (first | exact KB.refl _ _ | refine KB.alloc ?_ _)) hkk
    replace c2 := kk.cell (p := ⟨w.heap.size, 2, none⟩) (fun x => x) c2
    replace c3 := kk.cell (p := ⟨w.heap.size, 3, none⟩) (fun x => x) c3
    replace K := K.trans kk
    clear kk hkk
    go_wp2_with fail
    go_ret
    exact ⟨ret_eq (by rw [Hr.out]; rfl), K⟩
set_option maxRecDepth 100000 in
set_option maxHeartbeats 40000000 in
theorem asks_14c (hs : s.size ≤ 9223372036854775807) (hl : l.length ≤ 9223372036854775807) (ha : KindsAt w a l) (hT : Tab w) (hn1 : -9223372036854775808 ≤ n) (hn2 : n ≤ 9223372036854775807) (hv1 : n ≠ 1) (hv2 : n ≠ 2) :
    Calls Tryz.prog 117 #[.agg #[.int .u8 14, .int .i64 at_, .int .i64 n, .string s, .slice la ll lc], .slice a l.length cap] w fun e w' => e = .returned (.bool (askB 14 n s l)) ∧ KB F0 w w' := by
  have Hr : Hid (askB 14 n s l = (justB l [.ty, .ex] && nameB s && decide ((1 : Int) ≤ n) && decide (n ≤ (3 : Int)))) := Lib.hid (by unfold askB askR; simp only [if_neg hv1, if_neg hv2])
  obtain ⟨B0, HB0, K, -, -, c2, c3, HB0s⟩ := boxN w 14 at_ n s la ll lc
  have HN := Lib.hid (fun W (hk : KB F0 w W) => name_any s W hs (hT.kb hk))
  have HJ := Lib.hid (fun W a2 cap2 (hk : KB F0 w W) (hc : ClsAt W a2 [.ty, .ex]) => justV a a2 l [.ty, .ex] cap cap2 W hl (by decide) (ha.kbF hk) hc)
  generalize justB l [.ty, .ex] = b0 at HJ Hr
  generalize nameB s = bN at HN Hr
  obtain ⟨b1, hb1⟩ : ∃ b, decide ((1 : Int) ≤ n) = b := ⟨_, rfl⟩
  obtain ⟨b2, hb2⟩ : ∃ b, decide (n ≤ (3 : Int)) = b := ⟨_, rfl⟩
  have q1 : (n == 1) = false := by simp [hv1]
  have q2 : (n == 2) = false := by simp [hv2]
  clear hv1 hv2
  rw [hb1, hb2] at Hr
  clear ha hT
  rcases (show (b0 = false) ∨ (b0 = true ∧ bN = false) ∨ (b0 = true ∧ bN = true ∧ b1 = false) ∨ (b0 = true ∧ bN = true ∧ b1 = true ∧ b2 = false) ∨ (b0 = true ∧ bN = true ∧ b1 = true ∧ b2 = true) by cases b0 <;> cases bN <;> cases b1 <;> cases b2 <;> simp) with rfl | ⟨rfl, rfl⟩ | ⟨rfl, rfl, rfl⟩ | ⟨rfl, rfl, rfl, rfl⟩ | ⟨rfl, rfl, rfl, rfl⟩
  all_goals
    go_enter Tryz.func117, Tryz.ntmps117
    go_wp2_with fail
    rw [← HB0.out]
    try rw [HB0s.out]
    refine (HN.out _ (K.trans (by repeat (first | exact KB.refl _ _ | refine KB.alloc ?_ _)))).mono ?_
    rintro e W1 ⟨rfl, hkk⟩
    have kk : KB F0 B0 W1 := KB.trans (by repeat (first | exact KB.refl _ _ | refine KB.alloc ?_ _)) hkk
    replace c2 := kk.cell (p := ⟨w.heap.size, 2, none⟩) (fun x => x) c2
    replace c3 := kk.cell (p := ⟨w.heap.size, 3, none⟩) (fun x => x) c3
    replace K := K.trans kk
    clear kk hkk
    go_wp2_with fail
    refine (HJ.out _ _ _ (K.trans (by repeat (first | exact KB.refl _ _ | refine KB.alloc ?_ _))) (clsat2 (W := W1) (show ClsV _ (.func (.func 157) #[] #[]) .ty from rfl) (show ClsV _ (.func (.func 158) #[] #[]) .ex from rfl))).mono ?_
    rintro e W2 ⟨rfl, hkk⟩
    have kk : KB F0 W1 W2 := KB.trans (by repeat (first | exact KB.refl _ _ | refine KB.alloc ?_ _)) hkk
    replace c2 := kk.cell (p := ⟨w.heap.size, 2, none⟩) (fun x => x) c2
    replace c3 := kk.cell (p := ⟨w.heap.size, 3, none⟩) (fun x => x) c3
    replace K := K.trans kk
    clear kk hkk
    go_wp2_with fail
    go_ret
    exact ⟨ret_eq (by rw [Hr.out]; rfl), K⟩
set_option maxRecDepth 100000 in
set_option maxHeartbeats 40000000 in
theorem asks_16a (hs : s.size ≤ 9223372036854775807) (hl : l.length ≤ 9223372036854775807) (ha : KindsAt w a l) (hT : Tab w) (hn1 : -9223372036854775808 ≤ n) (hn2 : n ≤ 9223372036854775807) (hv : n = 0) :
    Calls Tryz.prog 117 #[.agg #[.int .u8 16, .int .i64 at_, .int .i64 n, .string s, .slice la ll lc], .slice a l.length cap] w fun e w' => e = .returned (.bool (askB 16 n s l)) ∧ KB F0 w w' := by
  have Hr : Hid (askB 16 n s l = (justB l [.ex, .kd [13]] && emptyB s && decide ((0 : Int) ≤ n) && decide (n ≤ (1 : Int)))) := Lib.hid (by rw [hv]; unfold askB askR; simp)
  obtain ⟨B0, HB0, K, -, -, c2, c3, HB0s⟩ := boxN w 16 at_ n s la ll lc
  have HJ := Lib.hid (fun W a2 cap2 (hk : KB F0 w W) (hc : ClsAt W a2 [.ex, .kd [13]]) => justV a a2 l [.ex, .kd [13]] cap cap2 W hl (by decide) (ha.kbF hk) hc)
  generalize justB l [.ex, .kd [13]] = b0 at HJ Hr
  have tE : s.toList.isEmpty = emptyB s := rfl
  generalize emptyB s = bE at tE Hr
  have hb1 : decide ((0 : Int) ≤ n) = true := by rw [hv]; rfl
  have hb2 : decide (n ≤ (1 : Int)) = true := by rw [hv]; rfl
  have q1 : (n == 0) = true := by rw [hv]; rfl
  have q2 : (n == 1) = false := by rw [hv]; rfl
  clear hv
  rw [hb1, hb2] at Hr
  clear ha hT
  rcases (show (b0 = false) ∨ (b0 = true ∧ bE = false) ∨ (b0 = true ∧ bE = true) by cases b0 <;> cases bE <;> simp) with rfl | ⟨rfl, rfl⟩ | ⟨rfl, rfl⟩
  all_goals
    go_enter Tryz.func117, Tryz.ntmps117
    go_wp2_with fail
    rw [← HB0.out]
    try rw [HB0s.out]
    refine (kindCall (ks := [13]) _ (by decide) (alloc_new B0 _)).mono ?_
    rintro e W1 ⟨kb1, rfl, hc0, hkk⟩
    have kk : KB F0 B0 W1 := KB.trans (by repeat (first | exact KB.refl _ _ | refine KB.alloc ?_ _)) hkk
    replace c2 := kk.cell (p := ⟨w.heap.size, 2, none⟩) (fun x => x) c2
    replace c3 := kk.cell (p := ⟨w.heap.size, 3, none⟩) (fun x => x) c3
    replace K := K.trans kk
    clear kk hkk
    go_wp2_with fail
    refine (HJ.out _ _ _ (K.trans (by repeat (first | exact KB.refl _ _ | refine KB.alloc ?_ _))) (clsat2 (W := W1) (show ClsV _ (.func (.func 158) #[] #[]) .ex from rfl) hc0)).mono ?_
    rintro e W2 ⟨rfl, hkk⟩
    have kk : KB F0 W1 W2 := KB.trans (by repeat (first | exact KB.refl _ _ | refine KB.alloc ?_ _)) hkk
    replace c2 := kk.cell (p := ⟨w.heap.size, 2, none⟩) (fun x => x) c2
    replace c3 := kk.cell (p := ⟨w.heap.size, 3, none⟩) (fun x => x) c3
    replace K := K.trans kk
    clear kk hkk
    go_wp2_with fail
    go_ret
    exact ⟨ret_eq (by rw [Hr.out]; rfl), K⟩
set_option maxRecDepth 100000 in
set_option maxHeartbeats 40000000 in
theorem asks_16b (hs : s.size ≤ 9223372036854775807) (hl : l.length ≤ 9223372036854775807) (ha : KindsAt w a l) (hT : Tab w) (hn1 : -9223372036854775808 ≤ n) (hn2 : n ≤ 9223372036854775807) (hv : n = 1) :
    Calls Tryz.prog 117 #[.agg #[.int .u8 16, .int .i64 at_, .int .i64 n, .string s, .slice la ll lc], .slice a l.length cap] w fun e w' => e = .returned (.bool (askB 16 n s l)) ∧ KB F0 w w' := by
  have Hr : Hid (askB 16 n s l = (justB l [.ex, .kd [13], .kd [13, 16]] && emptyB s && decide ((0 : Int) ≤ n) && decide (n ≤ (1 : Int)))) := Lib.hid (by rw [hv]; unfold askB askR; simp)
  obtain ⟨B0, HB0, K, -, -, c2, c3, HB0s⟩ := boxN w 16 at_ n s la ll lc
  have HJ := Lib.hid (fun W a2 cap2 (hk : KB F0 w W) (hc : ClsAt W a2 [.ex, .kd [13], .kd [13, 16]]) => justV a a2 l [.ex, .kd [13], .kd [13, 16]] cap cap2 W hl (by decide) (ha.kbF hk) hc)
  generalize justB l [.ex, .kd [13], .kd [13, 16]] = b0 at HJ Hr
  have tE : s.toList.isEmpty = emptyB s := rfl
  generalize emptyB s = bE at tE Hr
  have hb1 : decide ((0 : Int) ≤ n) = true := by rw [hv]; rfl
  have hb2 : decide (n ≤ (1 : Int)) = true := by rw [hv]; rfl
  have q1 : (n == 0) = false := by rw [hv]; rfl
  have q2 : (n == 1) = true := by rw [hv]; rfl
  clear hv
  rw [hb1, hb2] at Hr
  clear ha hT
  rcases (show (b0 = false) ∨ (b0 = true ∧ bE = false) ∨ (b0 = true ∧ bE = true) by cases b0 <;> cases bE <;> simp) with rfl | ⟨rfl, rfl⟩ | ⟨rfl, rfl⟩
  all_goals
    go_enter Tryz.func117, Tryz.ntmps117
    go_wp2_with fail
    rw [← HB0.out]
    try rw [HB0s.out]
    refine (kindCall (ks := [13]) _ (by decide) (alloc_new B0 _)).mono ?_
    rintro e W1 ⟨kb1, rfl, hc0, hkk⟩
    have kk : KB F0 B0 W1 := KB.trans (by repeat (first | exact KB.refl _ _ | refine KB.alloc ?_ _)) hkk
    replace c2 := kk.cell (p := ⟨w.heap.size, 2, none⟩) (fun x => x) c2
    replace c3 := kk.cell (p := ⟨w.heap.size, 3, none⟩) (fun x => x) c3
    replace K := K.trans kk
    clear kk hkk
    go_wp2_with fail
    refine (kindCall (ks := [13, 16]) _ (by decide) (alloc_new W1 _)).mono ?_
    rintro e W2 ⟨kb2, rfl, hc1, hkk⟩
    have kk : KB F0 W1 W2 := KB.trans (by repeat (first | exact KB.refl _ _ | refine KB.alloc ?_ _)) hkk
    replace c2 := kk.cell (p := ⟨w.heap.size, 2, none⟩) (fun x => x) c2
    replace c3 := kk.cell (p := ⟨w.heap.size, 3, none⟩) (fun x => x) c3
    replace hc0 := hc0.kb kk
    replace K := K.trans kk
    clear kk hkk
    go_wp2_with fail
    refine (HJ.out _ _ _ (K.trans (by repeat (first | exact KB.refl _ _ | refine KB.alloc ?_ _))) (clsat3 (W := W2) (show ClsV _ (.func (.func 158) #[] #[]) .ex from rfl) hc0 hc1)).mono ?_
    rintro e W3 ⟨rfl, hkk⟩
    have kk : KB F0 W2 W3 := KB.trans (by repeat (first | exact KB.refl _ _ | refine KB.alloc ?_ _)) hkk
    replace c2 := kk.cell (p := ⟨w.heap.size, 2, none⟩) (fun x => x) c2
    replace c3 := kk.cell (p := ⟨w.heap.size, 3, none⟩) (fun x => x) c3
    replace K := K.trans kk
    clear kk hkk
    go_wp2_with fail
    go_ret
    exact ⟨ret_eq (by rw [Hr.out]; rfl), K⟩
set_option maxRecDepth 100000 in
set_option maxHeartbeats 40000000 in
theorem asks_16c (hs : s.size ≤ 9223372036854775807) (hl : l.length ≤ 9223372036854775807) (ha : KindsAt w a l) (hT : Tab w) (hn1 : -9223372036854775808 ≤ n) (hn2 : n ≤ 9223372036854775807) (hv1 : n ≠ 0) (hv2 : n ≠ 1) :
    Calls Tryz.prog 117 #[.agg #[.int .u8 16, .int .i64 at_, .int .i64 n, .string s, .slice la ll lc], .slice a l.length cap] w fun e w' => e = .returned (.bool (askB 16 n s l)) ∧ KB F0 w w' := by
  have Hr : Hid (askB 16 n s l = (false && emptyB s && decide ((0 : Int) ≤ n) && decide (n ≤ (1 : Int)))) := Lib.hid (by unfold askB askR; simp [hv1, hv2])
  obtain ⟨B0, HB0, K, -, -, c2, c3, HB0s⟩ := boxN w 16 at_ n s la ll lc
  have tE : s.toList.isEmpty = emptyB s := rfl
  generalize emptyB s = bE at tE Hr
  obtain ⟨b1, hb1⟩ : ∃ b, decide ((0 : Int) ≤ n) = b := ⟨_, rfl⟩
  obtain ⟨b2, hb2⟩ : ∃ b, decide (n ≤ (1 : Int)) = b := ⟨_, rfl⟩
  have q1 : (n == 0) = false := by simp [hv1]
  have q2 : (n == 1) = false := by simp [hv2]
  clear hv1 hv2
  rw [hb1, hb2] at Hr
  clear ha hT
  go_enter Tryz.func117, Tryz.ntmps117
  go_wp2_with fail
  rw [← HB0.out]
  try rw [HB0s.out]
  go_ret
  exact ⟨ret_eq (by rw [Hr.out]; rfl), K⟩
end
set_option maxRecDepth 100000 in
set_option maxHeartbeats 4000000 in
theorem asks_32 (at_ n : Int) (s : ByteArray) (la : Option Addr) (ll lc : Nat) (a : Option Addr) (l : List Nat) (cap : Nat) (w : World) (_ : s.size ≤ 9223372036854775807) (hl : l.length ≤ 9223372036854775807) (ha : KindsAt w a l) (hT : Tab w) (_ : -9223372036854775808 ≤ n) (_ : n ≤ 9223372036854775807) :
    Calls Tryz.prog 117 #[.agg #[.int .u8 32, .int .i64 at_, .int .i64 n, .string s, .slice la ll lc], .slice a l.length cap] w fun e w' => e = .returned (.bool (askB 32 n s l)) ∧ KB F0 w w' := by
  obtain ⟨w0, rfl⟩ : ∃ w0, w0 = w := ⟨_, rfl⟩
  have Hr : Hid (askB 32 n s l = (justB l [.ex, .ex] && sgB s && decide ((0 : Int) ≤ n) && decide (n ≤ (0 : Int)))) := Lib.hid rfl
  obtain ⟨B0, hB0⟩ : ∃ B0, B0 = (w0.alloc (.cells #[.int .u8 32, .int .i64 at_, .int .i64 n, .string s, .slice la ll lc] 44)) := ⟨_, rfl⟩
  have K : KB F0 w0 B0 := by subst hB0; exact (KB.refl _ _).alloc _
  have c2 : B0.cell? ⟨w0.heap.size, 2, none⟩ = some (.int .i64 n) := by subst hB0; exact new_cell _ _ _ 2
  have c3 : B0.cell? ⟨w0.heap.size, 3, none⟩ = some (.string s) := by subst hB0; exact new_cell _ _ _ 3
  have HB0s : Hid (w0.heap.size + 1 = B0.heap.size) := Lib.hid (by subst hB0; simp)
  have HB0 := Lib.hid hB0
  clear hB0
  have HJ := Lib.hid (fun W a2 cap2 (hk : KB F0 w0 W) (hc : ClsAt W a2 [.ex, .ex]) => justV a a2 l [.ex, .ex] cap cap2 W hl (by decide) (ha.kbF hk) hc)
  have HS := Lib.hid (fun b W (h : W.heap[b]? = some (.cells (srow sgl) 9 (0, 0))) => contains_sg b s W h)
  have HTab := Lib.hid hT
  generalize justB l [.ex, .ex] = b0 at HJ Hr
  generalize sgB s = bN at HS Hr
  obtain ⟨b1, hb1⟩ : ∃ b, decide ((0 : Int) ≤ n) = b := ⟨_, rfl⟩
  obtain ⟨b2, hb2⟩ : ∃ b, decide (n ≤ (0 : Int)) = b := ⟨_, rfl⟩
  rw [hb1, hb2] at Hr
  clear ha hT
  cases bN
  · cases b0 <;> cases b1 <;> cases b2
    all_goals
      go_enter Tryz.func117, Tryz.ntmps117
      go_wp2_with fail
      rw [← HB0.out]
      try rw [HB0s.out]
      refine wp_region_rv 5 GK (kindW [(0, fun v => ∃ b, v = .slice (some ⟨b, 0, none⟩) 13 13, fun v w' => ∃ b, v = .slice (some ⟨b, 0, none⟩) 13 13 ∧ w'.heap[b]? = some (.cells (srow sgl) 9 (0, 0))), (3, fun v => v = .bool false, fun _ _ => True)]) (by kernel_rfl) (by kernel_rfl) (kb_trans _) (kb_refl _) (kb_start _ _) (kindW_mono _ (by intro p hp; simp only [List.mem_cons, List.not_mem_nil, or_false] at hp; rcases hp with rfl | rfl; exact fun v p q hG ⟨b, h1, h2⟩ => ⟨b, h1, hG.heap (fun x => x) h2⟩; exact lasts_true)) ?_
      simp only [List.take_succ_cons, List.take_zero, List.drop_succ_cons, List.drop_zero]
      refine rv_rel (by kernel_rfl) rfl ⟨.slice (some ⟨0, 0, none⟩) 13 13, _, rfl⟩ (by
        intro w hG hH
        refine opVal_call (by go_simp; first | done | exact ⟨⟨rfl, rfl⟩, rfl⟩) ?_
        refine (fields_sg _ (HTab.out.kb (K.trans hG))).mono ?_
        rintro e w' ⟨rfl, rfl⟩
        exact ⟨_, rfl, ⟨_, rfl⟩, (KB.refl _ _).alloc _, ⟨_, rfl, alloc_new _ _⟩⟩) ?_
      rintro v ⟨fb, rfl⟩
      simp only [Act.put, List.setIfInBounds_toArray, List.set_cons_zero, List.set_cons_succ]
      refine rv_det (by kernel_rfl) rfl (by intro w hG hH; go_simp; first | done | with_reducible rfl) ?_
      simp only [Act.put, List.setIfInBounds_toArray, List.set_cons_zero, List.set_cons_succ]
      refine rv_det (by kernel_rfl) rfl (by intro w hG hH; have hc0 := KB.cell hG (fun x => x) (c3); go_simp; first | done | with_reducible rfl) ?_
      simp only [Act.put, List.setIfInBounds_toArray, List.set_cons_zero, List.set_cons_succ]
      refine rv_rel (by kernel_rfl) rfl ⟨_, rfl⟩ (by
        intro w hG hH
        obtain ⟨b', e1, hf⟩ := hH _ (List.Mem.head _) (by kernel_rfl)
        simp only [Value.slice.injEq, Option.some.injEq, Addr.mk.injEq, and_true] at e1
        subst e1
        refine opVal_call (by go_simp; first | done | exact ⟨⟨rfl, rfl⟩, rfl⟩) ?_
        refine (HS.out _ _ hf).mono ?_
        rintro e w' ⟨rfl, rfl⟩
        exact ⟨_, rfl, rfl, KB.refl _ _, trivial⟩) ?_
      rintro v rfl
      simp only [Act.put, List.setIfInBounds_toArray, List.set_cons_zero, List.set_cons_succ]
      refine rv_det (by kernel_rfl) rfl (by intro w hG hH; go_simp; first | done | with_reducible rfl) ?_
      simp only [Act.put, List.setIfInBounds_toArray, List.set_cons_zero, List.set_cons_succ]
      refine rv_nil (fun w hG hH => ?_)
      clear hH
      replace c2 := hG.cell (p := ⟨w0.heap.size, 2, none⟩) (fun x => x) c2
      replace c3 := hG.cell (p := ⟨w0.heap.size, 3, none⟩) (fun x => x) c3
      replace K := K.trans hG
      clear hG
      go_wp2_with fail
      refine (HJ.out _ _ _ (K.trans (by repeat (first | exact KB.refl _ _ | refine KB.alloc ?_ _))) (clsat2 (W := w) (show ClsV _ (.func (.func 158) #[] #[]) .ex from rfl) (show ClsV _ (.func (.func 158) #[] #[]) .ex from rfl))).mono ?_
      rintro e W1 ⟨rfl, hkk⟩
      have kk : KB F0 w W1 := KB.trans (by repeat (first | exact KB.refl _ _ | refine KB.alloc ?_ _)) hkk
      replace c2 := kk.cell (p := ⟨w0.heap.size, 2, none⟩) (fun x => x) c2
      replace c3 := kk.cell (p := ⟨w0.heap.size, 3, none⟩) (fun x => x) c3
      replace K := K.trans kk
      clear kk hkk
      go_wp2_with fail
      go_ret
      exact ⟨ret_eq (by rw [Hr.out]; rfl), K⟩
  · cases b0 <;> cases b1 <;> cases b2
    all_goals
      go_enter Tryz.func117, Tryz.ntmps117
      go_wp2_with fail
      rw [← HB0.out]
      try rw [HB0s.out]
      refine wp_region_rv 5 GK (kindW [(0, fun v => ∃ b, v = .slice (some ⟨b, 0, none⟩) 13 13, fun v w' => ∃ b, v = .slice (some ⟨b, 0, none⟩) 13 13 ∧ w'.heap[b]? = some (.cells (srow sgl) 9 (0, 0))), (3, fun v => v = .bool true, fun _ _ => True)]) (by kernel_rfl) (by kernel_rfl) (kb_trans _) (kb_refl _) (kb_start _ _) (kindW_mono _ (by intro p hp; simp only [List.mem_cons, List.not_mem_nil, or_false] at hp; rcases hp with rfl | rfl; exact fun v p q hG ⟨b, h1, h2⟩ => ⟨b, h1, hG.heap (fun x => x) h2⟩; exact lasts_true)) ?_
      simp only [List.take_succ_cons, List.take_zero, List.drop_succ_cons, List.drop_zero]
      refine rv_rel (by kernel_rfl) rfl ⟨.slice (some ⟨0, 0, none⟩) 13 13, _, rfl⟩ (by
        intro w hG hH
        refine opVal_call (by go_simp; first | done | exact ⟨⟨rfl, rfl⟩, rfl⟩) ?_
        refine (fields_sg _ (HTab.out.kb (K.trans hG))).mono ?_
        rintro e w' ⟨rfl, rfl⟩
        exact ⟨_, rfl, ⟨_, rfl⟩, (KB.refl _ _).alloc _, ⟨_, rfl, alloc_new _ _⟩⟩) ?_
      rintro v ⟨fb, rfl⟩
      simp only [Act.put, List.setIfInBounds_toArray, List.set_cons_zero, List.set_cons_succ]
      refine rv_det (by kernel_rfl) rfl (by intro w hG hH; go_simp; first | done | with_reducible rfl) ?_
      simp only [Act.put, List.setIfInBounds_toArray, List.set_cons_zero, List.set_cons_succ]
      refine rv_det (by kernel_rfl) rfl (by intro w hG hH; have hc0 := KB.cell hG (fun x => x) (c3); go_simp; first | done | with_reducible rfl) ?_
      simp only [Act.put, List.setIfInBounds_toArray, List.set_cons_zero, List.set_cons_succ]
      refine rv_rel (by kernel_rfl) rfl ⟨_, rfl⟩ (by
        intro w hG hH
        obtain ⟨b', e1, hf⟩ := hH _ (List.Mem.head _) (by kernel_rfl)
        simp only [Value.slice.injEq, Option.some.injEq, Addr.mk.injEq, and_true] at e1
        subst e1
        refine opVal_call (by go_simp; first | done | exact ⟨⟨rfl, rfl⟩, rfl⟩) ?_
        refine (HS.out _ _ hf).mono ?_
        rintro e w' ⟨rfl, rfl⟩
        exact ⟨_, rfl, rfl, KB.refl _ _, trivial⟩) ?_
      rintro v rfl
      simp only [Act.put, List.setIfInBounds_toArray, List.set_cons_zero, List.set_cons_succ]
      refine rv_det (by kernel_rfl) rfl (by intro w hG hH; go_simp; first | done | with_reducible rfl) ?_
      simp only [Act.put, List.setIfInBounds_toArray, List.set_cons_zero, List.set_cons_succ]
      refine rv_nil (fun w hG hH => ?_)
      clear hH
      replace c2 := hG.cell (p := ⟨w0.heap.size, 2, none⟩) (fun x => x) c2
      replace c3 := hG.cell (p := ⟨w0.heap.size, 3, none⟩) (fun x => x) c3
      replace K := K.trans hG
      clear hG
      go_wp2_with fail
      refine (HJ.out _ _ _ (K.trans (by repeat (first | exact KB.refl _ _ | refine KB.alloc ?_ _))) (clsat2 (W := w) (show ClsV _ (.func (.func 158) #[] #[]) .ex from rfl) (show ClsV _ (.func (.func 158) #[] #[]) .ex from rfl))).mono ?_
      rintro e W1 ⟨rfl, hkk⟩
      have kk : KB F0 w W1 := KB.trans (by repeat (first | exact KB.refl _ _ | refine KB.alloc ?_ _)) hkk
      replace c2 := kk.cell (p := ⟨w0.heap.size, 2, none⟩) (fun x => x) c2
      replace c3 := kk.cell (p := ⟨w0.heap.size, 3, none⟩) (fun x => x) c3
      replace K := K.trans kk
      clear kk hkk
      go_wp2_with fail
      go_ret
      exact ⟨ret_eq (by rw [Hr.out]; rfl), K⟩
def KdP (v : Value) : Prop := ∃ b, v = .func (.func 188) #[] #[.pointer (some ⟨b, 0, none⟩)]
def KdW (ks : List Nat) (v : Value) (w : World) : Prop := ∃ b, v = .func (.func 188) #[] #[.pointer (some ⟨b, 0, none⟩)] ∧ ClsV w v (.kd ks)
theorem lasts_kd (ks : List Nat) : Lasts (KdW ks) := fun _ _ _ hG ⟨b, h1, h2⟩ => ⟨b, h1, h2.kb hG⟩
def CrP (v : Value) : Prop := ∃ nb, v = .slice (some ⟨nb, 0, none⟩) 2 2
def CrW (cs : List Cls) (v : Value) (w : World) : Prop := ∃ nb, v = .slice (some ⟨nb, 0, none⟩) 2 2 ∧ ClsAt w (some ⟨nb, 0, none⟩) cs
theorem lasts_cr (cs : List Cls) : Lasts (CrW cs) := fun _ _ _ hG ⟨b, h1, h2⟩ => ⟨b, h1, h2.kb hG⟩
theorem askedN (a : Option Addr) (l : List Nat) (m cap : Nat) (hm : m = l.length) (low high : Int) (v : Value) (c : Cls) (w : World) (hl : l.length ≤ 9223372036854775807) (ha : KindsAt w a l) (hv : ClsV w v c) :
    Calls Tryz.prog 153 #[.slice a m cap, .int .i64 low, .int .i64 high, v] w fun e w' => e = .returned (.bool (askedB l low high c)) ∧ KB (fun _ => False) w w' := by
  subst hm; exact asked_any a l cap low high v c w hl ha hv
theorem justN (a a2 : Option Addr) (l : List Nat) (cs : List Cls) (m k cap cap2 : Nat) (hm : m = l.length) (hk : k = cs.length) (w : World) (hl : l.length ≤ 9223372036854775807) (hl2 : cs.length ≤ 9223372036854775807) (ha : KindsAt w a l) (hc : ClsAt w a2 cs) :
    Calls Tryz.prog 156 #[.slice a m cap, .slice a2 k cap2] w fun e w' => e = .returned (.bool (justB l cs)) ∧ KB F0 w w' := by
  subst hm hk; exact justV a a2 l cs cap cap2 w hl hl2 ha hc
theorem KindsAt.part {w : World} {b o : Nat} {l : List Nat} (h : KindsAt w (some ⟨b, o, none⟩) l) (i k : Nat) : KindsAt w (some ⟨b, o + i, none⟩) ((l.drop i).take k) := by
  intro j hj
  simp only [List.length_take, List.length_drop] at hj
  obtain ⟨b', o', e, hc⟩ := h (i + j) (by omega)
  simp only [Option.some.injEq, Addr.mk.injEq, and_true] at e
  obtain ⟨rfl, rfl⟩ := e
  refine ⟨b, o + i, rfl, ?_⟩
  rw [Nat.add_assoc, hc]
  simp only [List.getD_eq_getElem?_getD, List.getElem?_take, List.getElem?_drop]
  rw [if_pos (by omega)]
theorem KindsAt.part0 {w : World} {b o : Nat} {l : List Nat} (h : KindsAt w (some ⟨b, o, none⟩) l) (k : Nat) : KindsAt w (some ⟨b, o, none⟩) (l.take k) := by
  have := h.part 0 k; simpa using this
theorem KindsAt.partE {w : World} {b o : Nat} {l : List Nat} (h : KindsAt w (some ⟨b, o, none⟩) l) (i : Nat) : KindsAt w (some ⟨b, o + i, none⟩) (l.drop i) := by
  have := h.part i (l.length - i)
  rwa [List.take_of_length_le (by simp)] at this
set_option maxRecDepth 100000 in
set_option maxHeartbeats 8000000 in
theorem asks_4ge (at_ nv : Int) (s : ByteArray) (la : Option Addr) (ll lc : Nat) (a : Option Addr) (l : List Nat) (cap : Nat) (w : World) (hs : s.size ≤ 9223372036854775807) (hl : l.length ≤ 9223372036854775807) (hcap : l.length ≤ cap) (ha : KindsAt w a l) (hT : Tab w) (hge : (max 0 (min nv 8)).toNat + 2 ≤ l.length) :
    Calls Tryz.prog 118 #[.agg #[.int .u8 4, .int .i64 at_, .int .i64 nv, .string s, .slice la ll lc], .slice a l.length cap] w fun e w' => e = .returned (.bool (askB 4 nv s l)) ∧ KB F0 w w' := by
  obtain ⟨w0, rfl⟩ : ∃ w0, w0 = w := ⟨_, rfl⟩
  obtain ⟨ab, ao, rfl, _⟩ := ha 0 (by omega)
  obtain ⟨kk, hkk⟩ : ∃ kk, kk = (max 0 (min nv 8)).toNat := ⟨_, rfl⟩
  have hm : max 0 (min nv 8) = (kk : Int) := by omega
  have hk8 : kk ≤ 8 := by omega
  obtain ⟨m, hmL⟩ : ∃ m, m = l.length - 2 := ⟨_, rfl⟩
  rw [← hkk] at hge
  have Hr : Hid (askB 4 nv s l = ((askedB (l.take kk) 0 16384 (.kd [5]) && (askedB ((l.drop kk).take (m - kk)) 0 8 (.kd [7]) && justB (l.drop m) [.ty, .kd [13]])) && nameB s && decide ((0 : Int) ≤ nv) && decide (nv ≤ (8 : Int)))) := Lib.hid (by
    show (fnB nv l && nameB s && decide ((0 : Int) ≤ nv) && decide (nv ≤ (8 : Int))) = _
    unfold fnB
    simp only [← hkk, if_pos hge, hmL])
  have HA1 := Lib.hid (fun W v (hk : KB F0 w0 W) (hv : ClsV W v (.kd [5])) => askedN (some ⟨ab, ao, none⟩) (l.take kk) kk cap (by simp; omega) 0 16384 v (.kd [5]) W (by simp; omega) ((ha.part0 kk).kbF hk) hv)
  have HA2 := Lib.hid (fun W v (hk : KB F0 w0 W) (hv : ClsV W v (.kd [7])) => askedN (some ⟨ab, ao + kk, none⟩) ((l.drop kk).take (m - kk)) (m - kk) (cap - kk) (by simp; omega) 0 8 v (.kd [7]) W (by simp; omega) ((ha.part kk _).kbF hk) hv)
  have HJ := Lib.hid (fun W a2 cap2 (hk : KB F0 w0 W) (hc : ClsAt W a2 [.ty, .kd [13]]) => justN (some ⟨ab, ao + m, none⟩) a2 (l.drop m) [.ty, .kd [13]] (l.length - m) 2 (cap - m) cap2 (by simp) rfl W (by simp; omega) (by decide) ((ha.partE m).kbF hk) hc)
  have HN := Lib.hid (fun W (hk : KB F0 w0 W) => name_any s W hs (hT.kb hk))
  generalize askedB (l.take kk) 0 16384 (.kd [5]) = bA at HA1 Hr
  generalize askedB ((l.drop kk).take (m - kk)) 0 8 (.kd [7]) = bB at HA2 Hr
  generalize justB (l.drop m) [.ty, .kd [13]] = bC at HJ Hr
  generalize nameB s = bN at HN Hr
  obtain ⟨L, hL⟩ : ∃ L, L = l.length := ⟨_, rfl⟩
  rw [← hL] at hl hcap hge hmL HJ ⊢
  obtain ⟨B0, hB0⟩ : ∃ B0, B0 = (w0.alloc (.cells #[.int .u8 4, .int .i64 at_, .int .i64 nv, .string s, .slice la ll lc] 44)) := ⟨_, rfl⟩
  have K : KB F0 w0 B0 := by subst hB0; exact (KB.refl _ _).alloc _
  have c2 : B0.cell? ⟨w0.heap.size, 2, none⟩ = some (.int .i64 nv) := by subst hB0; exact new_cell _ _ _ 2
  have c3 : B0.cell? ⟨w0.heap.size, 3, none⟩ = some (.string s) := by subst hB0; exact new_cell _ _ _ 3
  have HB0 := Lib.hid hB0
  have hw : IntKind.i64.wrap ((L : Int) - 2) = (m : Int) := by rw [w64 (by omega) (by omega)]; omega
  have e0 : (kk : Int) + 2 ≤ (L : Int) := by omega
  have e1 : (0 : Int) ≤ (kk : Int) := by omega
  have e2 : (kk : Int) ≤ (m : Int) := by omega
  have e3 : (m : Int) ≤ (cap : Int) := by omega
  have e4 : kk < cap := by omega
  have e5 : m < cap := by omega
  have e6 : m ≤ L := by omega
  have e7 : (m : Int) ≤ (L : Int) := by omega
  have e8 : kk ≤ m := by omega
  have e9 : (kk : Int) ≤ (cap : Int) := by omega
  have hne1 : ¬ cap = kk := by omega
  have hne2 : ¬ cap = m := by omega
  have HNE := Lib.hid (And.intro hne1 hne2)
  obtain ⟨b1, hb1⟩ : ∃ b, decide ((0 : Int) ≤ nv) = b := ⟨_, rfl⟩
  obtain ⟨b2, hb2⟩ : ∃ b, decide (nv ≤ (8 : Int)) = b := ⟨_, rfl⟩
  rw [hb1, hb2] at Hr
  clear hB0 hkk hmL hL ha hT hne1 hne2 hge
  cases bA
  · go_enter Tryz.func118, Tryz.ntmps118
    go_wp2_with fail
    rw [← HB0.out]
    refine wp_region_rv 13 GQ (kindV []) (by kernel_rfl) (by kernel_rfl) GQ.trans GQ.refl (GQ.start _) (kindV_mono _) ?_
    simp only [List.take_succ_cons, List.take_zero, List.drop_succ_cons, List.drop_zero]
    iterate 13 (refine rv_det (by kernel_rfl) rfl (by intro w hG hH; obtain ⟨n, rfl⟩ := hG; go_simp; first | done | with_reducible rfl) ?_; simp only [Act.put, List.setIfInBounds_toArray, List.set_cons_zero, List.set_cons_succ])
    refine rv_nil (fun w hG hH => ?_)
    obtain ⟨n, rfl⟩ := hG
    clear hH
    rw [if_neg HNE.out.1, if_neg HNE.out.2]
    obtain ⟨B1, hB1⟩ : ∃ B1, B1 = B0.drewN n := ⟨_, rfl⟩
    rw [← hB1]
    have kk1 : KB F0 B0 B1 := by rw [hB1]; exact (KB.refl _ _).drewN n
    replace c2 := kk1.cell (p := ⟨w0.heap.size, 2, none⟩) (fun x => x) c2
    replace c3 := kk1.cell (p := ⟨w0.heap.size, 3, none⟩) (fun x => x) c3
    replace K := K.trans kk1
    clear kk1 hB1
    go_wp2_with fail
    refine wp_region_rv 21 GK (kindW [(4, OneRow B1.heap.size (u8s [5]) 41, OneRowAt B1.heap.size (u8s [5]) 41), (5, KdP, KdW [5]), (6, fun v => v = .bool false, fun _ _ => True), (9, OneRow B1.heap.size (u8s [7]) 41, OneRowAt B1.heap.size (u8s [7]) 41), (10, KdP, KdW [7]), (11, fun v => v = .bool bB, fun _ _ => True), (15, OneRow B1.heap.size (u8s [13]) 41, OneRowAt B1.heap.size (u8s [13]) 41), (16, KdP, KdW [13]), (17, CrP, CrW [.ty, .kd [13]]), (18, fun v => v = .bool bC, fun _ _ => True)]) (by kernel_rfl) (by kernel_rfl) (kb_trans _) (kb_refl _) (kb_start _ _) (kindW_mono _ (by intro p hp; simp only [List.mem_cons, List.not_mem_nil, or_false] at hp; rcases hp with rfl | rfl | rfl | rfl | rfl | rfl | rfl | rfl | rfl | rfl <;> first | exact lasts_row _ _ _ | exact lasts_kd _ | exact lasts_cr _ | exact lasts_true)) ?_
    simp only [List.take_succ_cons, List.take_zero, List.drop_succ_cons, List.drop_zero]
    iterate 4 (refine rv_det (by kernel_rfl) rfl (by intro w hG hH; go_simp; first | done | with_reducible rfl) ?_; simp only [Act.put, List.setIfInBounds_toArray, List.set_cons_zero, List.set_cons_succ])
    refine rv_rel (by kernel_rfl) rfl ⟨.slice (some ⟨_, 0, none⟩) 1 1, _, rfl, Nat.le_refl _⟩ (fun w hG hH => opVal_row hG (by go_simp; first | done | rfl)) ?_
    rintro v ⟨nb, rfl, hnb⟩
    simp only [Act.put, List.setIfInBounds_toArray, List.set_cons_zero, List.set_cons_succ]
    refine rv_rel (by kernel_rfl) rfl ⟨.func (.func 188) #[] #[.pointer (some ⟨0, 0, none⟩)], _, rfl⟩ (by
      intro w hG hH
      obtain ⟨b', e1, -, hf⟩ := hH _ (List.Mem.head _) (by kernel_rfl)
      simp only [Value.slice.injEq, Option.some.injEq, Addr.mk.injEq, and_true] at e1
      subst e1
      refine opVal_call (by go_simp; first | done | exact ⟨⟨rfl, rfl⟩, rfl⟩) ?_
      refine (kindCall (ks := [5]) _ (by decide) hf).mono ?_
      rintro e w' ⟨b, rfl, hv, hk⟩
      exact ⟨_, rfl, ⟨_, rfl⟩, hk, ⟨_, rfl, hv⟩⟩) ?_
    rintro v ⟨kb, rfl⟩
    simp only [Act.put, List.setIfInBounds_toArray, List.set_cons_zero, List.set_cons_succ]
    refine rv_rel (by kernel_rfl) rfl ⟨_, rfl⟩ (by
      intro w hG hH
      obtain ⟨_, -, hv⟩ := hH _ (List.Mem.head _) (by kernel_rfl)
      refine opVal_call (by go_simp; first | done | exact ⟨⟨rfl, rfl⟩, rfl⟩) ?_
      refine (HA1.out _ _ (K.trans hG) hv).mono ?_
      rintro e w' ⟨rfl, hk⟩
      exact ⟨_, rfl, rfl, hk, trivial⟩) ?_
    rintro v rfl
    simp only [Act.put, List.setIfInBounds_toArray, List.set_cons_zero, List.set_cons_succ]
    refine rv_det (by kernel_rfl) rfl (by intro w hG hH; go_simp; first | done | with_reducible rfl) ?_
    simp only [Act.put, List.setIfInBounds_toArray, List.set_cons_zero, List.set_cons_succ]
    iterate 4 (refine rv_skip (by kernel_rfl) ?_; simp only [Act.put, List.setIfInBounds_toArray, List.set_cons_zero, List.set_cons_succ])
    iterate 2 (refine rv_det (by kernel_rfl) rfl (by intro w hG hH; go_simp; first | done | with_reducible rfl) ?_; simp only [Act.put, List.setIfInBounds_toArray, List.set_cons_zero, List.set_cons_succ])
    iterate 5 (refine rv_skip (by kernel_rfl) ?_; simp only [Act.put, List.setIfInBounds_toArray, List.set_cons_zero, List.set_cons_succ])
    iterate 2 (refine rv_det (by kernel_rfl) rfl (by intro w hG hH; go_simp; first | done | with_reducible rfl) ?_; simp only [Act.put, List.setIfInBounds_toArray, List.set_cons_zero, List.set_cons_succ])
    refine rv_nil (fun w hG hH => ?_)
    clear hH
    replace c2 := hG.cell (p := ⟨w0.heap.size, 2, none⟩) (fun x => x) c2
    replace c3 := hG.cell (p := ⟨w0.heap.size, 3, none⟩) (fun x => x) c3
    replace K := K.trans hG
    clear hG
    go_wp2_with fail
    refine (HN.out _ (K.trans (by repeat (first | exact KB.refl _ _ | refine KB.alloc ?_ _)))).mono ?_
    rintro e W1 ⟨rfl, hkk⟩
    have kk9 : KB F0 w W1 := KB.trans (by repeat (first | exact KB.refl _ _ | refine KB.alloc ?_ _)) hkk
    replace c2 := kk9.cell (p := ⟨w0.heap.size, 2, none⟩) (fun x => x) c2
    replace K := K.trans kk9
    clear kk9 hkk
    go_wp2_with fail
    go_ret
    exact ⟨ret_eq (by rw [Hr.out]; rfl), K⟩
  · cases bB
    · go_enter Tryz.func118, Tryz.ntmps118
      go_wp2_with fail
      rw [← HB0.out]
      refine wp_region_rv 13 GQ (kindV []) (by kernel_rfl) (by kernel_rfl) GQ.trans GQ.refl (GQ.start _) (kindV_mono _) ?_
      simp only [List.take_succ_cons, List.take_zero, List.drop_succ_cons, List.drop_zero]
      iterate 13 (refine rv_det (by kernel_rfl) rfl (by intro w hG hH; obtain ⟨n, rfl⟩ := hG; go_simp; first | done | with_reducible rfl) ?_; simp only [Act.put, List.setIfInBounds_toArray, List.set_cons_zero, List.set_cons_succ])
      refine rv_nil (fun w hG hH => ?_)
      obtain ⟨n, rfl⟩ := hG
      clear hH
      rw [if_neg HNE.out.1, if_neg HNE.out.2]
      obtain ⟨B1, hB1⟩ : ∃ B1, B1 = B0.drewN n := ⟨_, rfl⟩
      rw [← hB1]
      have kk1 : KB F0 B0 B1 := by rw [hB1]; exact (KB.refl _ _).drewN n
      replace c2 := kk1.cell (p := ⟨w0.heap.size, 2, none⟩) (fun x => x) c2
      replace c3 := kk1.cell (p := ⟨w0.heap.size, 3, none⟩) (fun x => x) c3
      replace K := K.trans kk1
      clear kk1 hB1
      go_wp2_with fail
      refine wp_region_rv 21 GK (kindW [(4, OneRow B1.heap.size (u8s [5]) 41, OneRowAt B1.heap.size (u8s [5]) 41), (5, KdP, KdW [5]), (6, fun v => v = .bool true, fun _ _ => True), (9, OneRow B1.heap.size (u8s [7]) 41, OneRowAt B1.heap.size (u8s [7]) 41), (10, KdP, KdW [7]), (11, fun v => v = .bool false, fun _ _ => True), (15, OneRow B1.heap.size (u8s [13]) 41, OneRowAt B1.heap.size (u8s [13]) 41), (16, KdP, KdW [13]), (17, CrP, CrW [.ty, .kd [13]]), (18, fun v => v = .bool bC, fun _ _ => True)]) (by kernel_rfl) (by kernel_rfl) (kb_trans _) (kb_refl _) (kb_start _ _) (kindW_mono _ (by intro p hp; simp only [List.mem_cons, List.not_mem_nil, or_false] at hp; rcases hp with rfl | rfl | rfl | rfl | rfl | rfl | rfl | rfl | rfl | rfl <;> first | exact lasts_row _ _ _ | exact lasts_kd _ | exact lasts_cr _ | exact lasts_true)) ?_
      simp only [List.take_succ_cons, List.take_zero, List.drop_succ_cons, List.drop_zero]
      iterate 4 (refine rv_det (by kernel_rfl) rfl (by intro w hG hH; go_simp; first | done | with_reducible rfl) ?_; simp only [Act.put, List.setIfInBounds_toArray, List.set_cons_zero, List.set_cons_succ])
      refine rv_rel (by kernel_rfl) rfl ⟨.slice (some ⟨_, 0, none⟩) 1 1, _, rfl, Nat.le_refl _⟩ (fun w hG hH => opVal_row hG (by go_simp; first | done | rfl)) ?_
      rintro v ⟨nb, rfl, hnb⟩
      simp only [Act.put, List.setIfInBounds_toArray, List.set_cons_zero, List.set_cons_succ]
      refine rv_rel (by kernel_rfl) rfl ⟨.func (.func 188) #[] #[.pointer (some ⟨0, 0, none⟩)], _, rfl⟩ (by
        intro w hG hH
        obtain ⟨b', e1, -, hf⟩ := hH _ (List.Mem.head _) (by kernel_rfl)
        simp only [Value.slice.injEq, Option.some.injEq, Addr.mk.injEq, and_true] at e1
        subst e1
        refine opVal_call (by go_simp; first | done | exact ⟨⟨rfl, rfl⟩, rfl⟩) ?_
        refine (kindCall (ks := [5]) _ (by decide) hf).mono ?_
        rintro e w' ⟨b, rfl, hv, hk⟩
        exact ⟨_, rfl, ⟨_, rfl⟩, hk, ⟨_, rfl, hv⟩⟩) ?_
      rintro v ⟨kb, rfl⟩
      simp only [Act.put, List.setIfInBounds_toArray, List.set_cons_zero, List.set_cons_succ]
      refine rv_rel (by kernel_rfl) rfl ⟨_, rfl⟩ (by
        intro w hG hH
        obtain ⟨_, -, hv⟩ := hH _ (List.Mem.head _) (by kernel_rfl)
        refine opVal_call (by go_simp; first | done | exact ⟨⟨rfl, rfl⟩, rfl⟩) ?_
        refine (HA1.out _ _ (K.trans hG) hv).mono ?_
        rintro e w' ⟨rfl, hk⟩
        exact ⟨_, rfl, rfl, hk, trivial⟩) ?_
      rintro v rfl
      simp only [Act.put, List.setIfInBounds_toArray, List.set_cons_zero, List.set_cons_succ]
      refine rv_det (by kernel_rfl) rfl (by intro w hG hH; go_simp; first | done | with_reducible rfl) ?_
      simp only [Act.put, List.setIfInBounds_toArray, List.set_cons_zero, List.set_cons_succ]
      refine rv_det (by kernel_rfl) rfl (by intro w hG hH; go_simp; first | done | with_reducible rfl) ?_
      simp only [Act.put, List.setIfInBounds_toArray, List.set_cons_zero, List.set_cons_succ]
      refine rv_rel (by kernel_rfl) rfl ⟨.slice (some ⟨_, 0, none⟩) 1 1, _, rfl, Nat.le_refl _⟩ (fun w hG hH => opVal_row hG (by go_simp; first | done | rfl)) ?_
      rintro v ⟨nb, rfl, hnb⟩
      simp only [Act.put, List.setIfInBounds_toArray, List.set_cons_zero, List.set_cons_succ]
      refine rv_rel (by kernel_rfl) rfl ⟨.func (.func 188) #[] #[.pointer (some ⟨0, 0, none⟩)], _, rfl⟩ (by
        intro w hG hH
        obtain ⟨b', e1, -, hf⟩ := hH _ (List.Mem.head _) (by kernel_rfl)
        simp only [Value.slice.injEq, Option.some.injEq, Addr.mk.injEq, and_true] at e1
        subst e1
        refine opVal_call (by go_simp; first | done | exact ⟨⟨rfl, rfl⟩, rfl⟩) ?_
        refine (kindCall (ks := [7]) _ (by decide) hf).mono ?_
        rintro e w' ⟨b, rfl, hv, hk⟩
        exact ⟨_, rfl, ⟨_, rfl⟩, hk, ⟨_, rfl, hv⟩⟩) ?_
      rintro v ⟨kb, rfl⟩
      simp only [Act.put, List.setIfInBounds_toArray, List.set_cons_zero, List.set_cons_succ]
      refine rv_rel (by kernel_rfl) rfl ⟨_, rfl⟩ (by
        intro w hG hH
        obtain ⟨_, -, hv⟩ := hH _ (List.Mem.head _) (by kernel_rfl)
        refine opVal_call (by go_simp; first | done | exact ⟨⟨rfl, rfl⟩, rfl⟩) ?_
        refine (HA2.out _ _ (K.trans hG) hv).mono ?_
        rintro e w' ⟨rfl, hk⟩
        exact ⟨_, rfl, rfl, hk, trivial⟩) ?_
      rintro v rfl
      simp only [Act.put, List.setIfInBounds_toArray, List.set_cons_zero, List.set_cons_succ]
      iterate 2 (refine rv_det (by kernel_rfl) rfl (by intro w hG hH; go_simp; first | done | with_reducible rfl) ?_; simp only [Act.put, List.setIfInBounds_toArray, List.set_cons_zero, List.set_cons_succ])
      iterate 5 (refine rv_skip (by kernel_rfl) ?_; simp only [Act.put, List.setIfInBounds_toArray, List.set_cons_zero, List.set_cons_succ])
      iterate 2 (refine rv_det (by kernel_rfl) rfl (by intro w hG hH; go_simp; first | done | with_reducible rfl) ?_; simp only [Act.put, List.setIfInBounds_toArray, List.set_cons_zero, List.set_cons_succ])
      refine rv_nil (fun w hG hH => ?_)
      clear hH
      replace c2 := hG.cell (p := ⟨w0.heap.size, 2, none⟩) (fun x => x) c2
      replace c3 := hG.cell (p := ⟨w0.heap.size, 3, none⟩) (fun x => x) c3
      replace K := K.trans hG
      clear hG
      go_wp2_with fail
      refine (HN.out _ (K.trans (by repeat (first | exact KB.refl _ _ | refine KB.alloc ?_ _)))).mono ?_
      rintro e W1 ⟨rfl, hkk⟩
      have kk9 : KB F0 w W1 := KB.trans (by repeat (first | exact KB.refl _ _ | refine KB.alloc ?_ _)) hkk
      replace c2 := kk9.cell (p := ⟨w0.heap.size, 2, none⟩) (fun x => x) c2
      replace K := K.trans kk9
      clear kk9 hkk
      go_wp2_with fail
      go_ret
      exact ⟨ret_eq (by rw [Hr.out]; rfl), K⟩
    · cases bC
      · go_enter Tryz.func118, Tryz.ntmps118
        go_wp2_with fail
        rw [← HB0.out]
        refine wp_region_rv 13 GQ (kindV []) (by kernel_rfl) (by kernel_rfl) GQ.trans GQ.refl (GQ.start _) (kindV_mono _) ?_
        simp only [List.take_succ_cons, List.take_zero, List.drop_succ_cons, List.drop_zero]
        iterate 13 (refine rv_det (by kernel_rfl) rfl (by intro w hG hH; obtain ⟨n, rfl⟩ := hG; go_simp; first | done | with_reducible rfl) ?_; simp only [Act.put, List.setIfInBounds_toArray, List.set_cons_zero, List.set_cons_succ])
        refine rv_nil (fun w hG hH => ?_)
        obtain ⟨n, rfl⟩ := hG
        clear hH
        rw [if_neg HNE.out.1, if_neg HNE.out.2]
        obtain ⟨B1, hB1⟩ : ∃ B1, B1 = B0.drewN n := ⟨_, rfl⟩
        rw [← hB1]
        have kk1 : KB F0 B0 B1 := by rw [hB1]; exact (KB.refl _ _).drewN n
        replace c2 := kk1.cell (p := ⟨w0.heap.size, 2, none⟩) (fun x => x) c2
        replace c3 := kk1.cell (p := ⟨w0.heap.size, 3, none⟩) (fun x => x) c3
        replace K := K.trans kk1
        clear kk1 hB1
        go_wp2_with fail
        refine wp_region_rv 21 GK (kindW [(4, OneRow B1.heap.size (u8s [5]) 41, OneRowAt B1.heap.size (u8s [5]) 41), (5, KdP, KdW [5]), (6, fun v => v = .bool true, fun _ _ => True), (9, OneRow B1.heap.size (u8s [7]) 41, OneRowAt B1.heap.size (u8s [7]) 41), (10, KdP, KdW [7]), (11, fun v => v = .bool true, fun _ _ => True), (15, OneRow B1.heap.size (u8s [13]) 41, OneRowAt B1.heap.size (u8s [13]) 41), (16, KdP, KdW [13]), (17, CrP, CrW [.ty, .kd [13]]), (18, fun v => v = .bool false, fun _ _ => True)]) (by kernel_rfl) (by kernel_rfl) (kb_trans _) (kb_refl _) (kb_start _ _) (kindW_mono _ (by intro p hp; simp only [List.mem_cons, List.not_mem_nil, or_false] at hp; rcases hp with rfl | rfl | rfl | rfl | rfl | rfl | rfl | rfl | rfl | rfl <;> first | exact lasts_row _ _ _ | exact lasts_kd _ | exact lasts_cr _ | exact lasts_true)) ?_
        simp only [List.take_succ_cons, List.take_zero, List.drop_succ_cons, List.drop_zero]
        iterate 4 (refine rv_det (by kernel_rfl) rfl (by intro w hG hH; go_simp; first | done | with_reducible rfl) ?_; simp only [Act.put, List.setIfInBounds_toArray, List.set_cons_zero, List.set_cons_succ])
        refine rv_rel (by kernel_rfl) rfl ⟨.slice (some ⟨_, 0, none⟩) 1 1, _, rfl, Nat.le_refl _⟩ (fun w hG hH => opVal_row hG (by go_simp; first | done | rfl)) ?_
        rintro v ⟨nb, rfl, hnb⟩
        simp only [Act.put, List.setIfInBounds_toArray, List.set_cons_zero, List.set_cons_succ]
        refine rv_rel (by kernel_rfl) rfl ⟨.func (.func 188) #[] #[.pointer (some ⟨0, 0, none⟩)], _, rfl⟩ (by
          intro w hG hH
          obtain ⟨b', e1, -, hf⟩ := hH _ (List.Mem.head _) (by kernel_rfl)
          simp only [Value.slice.injEq, Option.some.injEq, Addr.mk.injEq, and_true] at e1
          subst e1
          refine opVal_call (by go_simp; first | done | exact ⟨⟨rfl, rfl⟩, rfl⟩) ?_
          refine (kindCall (ks := [5]) _ (by decide) hf).mono ?_
          rintro e w' ⟨b, rfl, hv, hk⟩
          exact ⟨_, rfl, ⟨_, rfl⟩, hk, ⟨_, rfl, hv⟩⟩) ?_
        rintro v ⟨kb, rfl⟩
        simp only [Act.put, List.setIfInBounds_toArray, List.set_cons_zero, List.set_cons_succ]
        refine rv_rel (by kernel_rfl) rfl ⟨_, rfl⟩ (by
          intro w hG hH
          obtain ⟨_, -, hv⟩ := hH _ (List.Mem.head _) (by kernel_rfl)
          refine opVal_call (by go_simp; first | done | exact ⟨⟨rfl, rfl⟩, rfl⟩) ?_
          refine (HA1.out _ _ (K.trans hG) hv).mono ?_
          rintro e w' ⟨rfl, hk⟩
          exact ⟨_, rfl, rfl, hk, trivial⟩) ?_
        rintro v rfl
        simp only [Act.put, List.setIfInBounds_toArray, List.set_cons_zero, List.set_cons_succ]
        refine rv_det (by kernel_rfl) rfl (by intro w hG hH; go_simp; first | done | with_reducible rfl) ?_
        simp only [Act.put, List.setIfInBounds_toArray, List.set_cons_zero, List.set_cons_succ]
        refine rv_det (by kernel_rfl) rfl (by intro w hG hH; go_simp; first | done | with_reducible rfl) ?_
        simp only [Act.put, List.setIfInBounds_toArray, List.set_cons_zero, List.set_cons_succ]
        refine rv_rel (by kernel_rfl) rfl ⟨.slice (some ⟨_, 0, none⟩) 1 1, _, rfl, Nat.le_refl _⟩ (fun w hG hH => opVal_row hG (by go_simp; first | done | rfl)) ?_
        rintro v ⟨nb, rfl, hnb⟩
        simp only [Act.put, List.setIfInBounds_toArray, List.set_cons_zero, List.set_cons_succ]
        refine rv_rel (by kernel_rfl) rfl ⟨.func (.func 188) #[] #[.pointer (some ⟨0, 0, none⟩)], _, rfl⟩ (by
          intro w hG hH
          obtain ⟨b', e1, -, hf⟩ := hH _ (List.Mem.head _) (by kernel_rfl)
          simp only [Value.slice.injEq, Option.some.injEq, Addr.mk.injEq, and_true] at e1
          subst e1
          refine opVal_call (by go_simp; first | done | exact ⟨⟨rfl, rfl⟩, rfl⟩) ?_
          refine (kindCall (ks := [7]) _ (by decide) hf).mono ?_
          rintro e w' ⟨b, rfl, hv, hk⟩
          exact ⟨_, rfl, ⟨_, rfl⟩, hk, ⟨_, rfl, hv⟩⟩) ?_
        rintro v ⟨kb, rfl⟩
        simp only [Act.put, List.setIfInBounds_toArray, List.set_cons_zero, List.set_cons_succ]
        refine rv_rel (by kernel_rfl) rfl ⟨_, rfl⟩ (by
          intro w hG hH
          obtain ⟨_, -, hv⟩ := hH _ (List.Mem.head _) (by kernel_rfl)
          refine opVal_call (by go_simp; first | done | exact ⟨⟨rfl, rfl⟩, rfl⟩) ?_
          refine (HA2.out _ _ (K.trans hG) hv).mono ?_
          rintro e w' ⟨rfl, hk⟩
          exact ⟨_, rfl, rfl, hk, trivial⟩) ?_
        rintro v rfl
        simp only [Act.put, List.setIfInBounds_toArray, List.set_cons_zero, List.set_cons_succ]
        iterate 2 (refine rv_det (by kernel_rfl) rfl (by intro w hG hH; go_simp; first | done | with_reducible rfl) ?_; simp only [Act.put, List.setIfInBounds_toArray, List.set_cons_zero, List.set_cons_succ])
        refine rv_det (by kernel_rfl) rfl (by intro w hG hH; go_simp; first | done | with_reducible rfl) ?_
        simp only [Act.put, List.setIfInBounds_toArray, List.set_cons_zero, List.set_cons_succ]
        refine rv_rel (by kernel_rfl) rfl ⟨.slice (some ⟨_, 0, none⟩) 1 1, _, rfl, Nat.le_refl _⟩ (fun w hG hH => opVal_row hG (by go_simp; first | done | rfl)) ?_
        rintro v ⟨nb, rfl, hnb⟩
        simp only [Act.put, List.setIfInBounds_toArray, List.set_cons_zero, List.set_cons_succ]
        refine rv_rel (by kernel_rfl) rfl ⟨.func (.func 188) #[] #[.pointer (some ⟨0, 0, none⟩)], _, rfl⟩ (by
          intro w hG hH
          obtain ⟨b', e1, -, hf⟩ := hH _ (List.Mem.head _) (by kernel_rfl)
          simp only [Value.slice.injEq, Option.some.injEq, Addr.mk.injEq, and_true] at e1
          subst e1
          refine opVal_call (by go_simp; first | done | exact ⟨⟨rfl, rfl⟩, rfl⟩) ?_
          refine (kindCall (ks := [13]) _ (by decide) hf).mono ?_
          rintro e w' ⟨b, rfl, hv, hk⟩
          exact ⟨_, rfl, ⟨_, rfl⟩, hk, ⟨_, rfl, hv⟩⟩) ?_
        rintro v ⟨kb, rfl⟩
        simp only [Act.put, List.setIfInBounds_toArray, List.set_cons_zero, List.set_cons_succ]
        refine rv_rel (by kernel_rfl) rfl ⟨.slice (some ⟨0, 0, none⟩) 2 2, _, rfl⟩ (by
          intro w hG hH
          obtain ⟨_, -, hv⟩ := hH _ (List.Mem.head _) (by kernel_rfl)
          refine opVal_value (v := .slice (some ⟨w.heap.size, 0, none⟩) 2 2) (w' := w.alloc _) (by go_simp; first | done | rfl) ?_
          exact ⟨⟨_, rfl⟩, (KB.refl _ w).alloc _, ⟨_, rfl, clsat2 (show ClsV _ (.func (.func 157) #[] #[]) .ty from rfl) hv⟩⟩) ?_
        rintro v ⟨cb, rfl⟩
        simp only [Act.put, List.setIfInBounds_toArray, List.set_cons_zero, List.set_cons_succ]
        refine rv_rel (by kernel_rfl) rfl ⟨_, rfl⟩ (by
          intro w hG hH
          obtain ⟨b', e1, hv⟩ := hH _ (List.Mem.head _) (by kernel_rfl)
          simp only [Value.slice.injEq, Option.some.injEq, Addr.mk.injEq, and_true] at e1
          subst e1
          refine opVal_call (by go_simp; first | done | exact ⟨⟨rfl, rfl⟩, rfl⟩) ?_
          refine (HJ.out _ _ _ (K.trans hG) hv).mono ?_
          rintro e w' ⟨rfl, hk⟩
          exact ⟨_, rfl, rfl, hk, trivial⟩) ?_
        rintro v rfl
        simp only [Act.put, List.setIfInBounds_toArray, List.set_cons_zero, List.set_cons_succ]
        iterate 2 (refine rv_det (by kernel_rfl) rfl (by intro w hG hH; go_simp; first | done | with_reducible rfl) ?_; simp only [Act.put, List.setIfInBounds_toArray, List.set_cons_zero, List.set_cons_succ])
        refine rv_nil (fun w hG hH => ?_)
        clear hH
        replace c2 := hG.cell (p := ⟨w0.heap.size, 2, none⟩) (fun x => x) c2
        replace c3 := hG.cell (p := ⟨w0.heap.size, 3, none⟩) (fun x => x) c3
        replace K := K.trans hG
        clear hG
        go_wp2_with fail
        refine (HN.out _ (K.trans (by repeat (first | exact KB.refl _ _ | refine KB.alloc ?_ _)))).mono ?_
        rintro e W1 ⟨rfl, hkk⟩
        have kk9 : KB F0 w W1 := KB.trans (by repeat (first | exact KB.refl _ _ | refine KB.alloc ?_ _)) hkk
        replace c2 := kk9.cell (p := ⟨w0.heap.size, 2, none⟩) (fun x => x) c2
        replace K := K.trans kk9
        clear kk9 hkk
        go_wp2_with fail
        go_ret
        exact ⟨ret_eq (by rw [Hr.out]; rfl), K⟩
      · rcases (show (bN = false) ∨ (bN = true ∧ b1 = false) ∨ (bN = true ∧ b1 = true ∧ b2 = false) ∨ (bN = true ∧ b1 = true ∧ b2 = true) by cases bN <;> cases b1 <;> cases b2 <;> simp) with rfl | ⟨rfl, rfl⟩ | ⟨rfl, rfl, rfl⟩ | ⟨rfl, rfl, rfl⟩
        all_goals
          go_enter Tryz.func118, Tryz.ntmps118
          go_wp2_with fail
          rw [← HB0.out]
          refine wp_region_rv 13 GQ (kindV []) (by kernel_rfl) (by kernel_rfl) GQ.trans GQ.refl (GQ.start _) (kindV_mono _) ?_
          simp only [List.take_succ_cons, List.take_zero, List.drop_succ_cons, List.drop_zero]
          iterate 13 (refine rv_det (by kernel_rfl) rfl (by intro w hG hH; obtain ⟨n, rfl⟩ := hG; go_simp; first | done | with_reducible rfl) ?_; simp only [Act.put, List.setIfInBounds_toArray, List.set_cons_zero, List.set_cons_succ])
          refine rv_nil (fun w hG hH => ?_)
          obtain ⟨n, rfl⟩ := hG
          clear hH
          rw [if_neg HNE.out.1, if_neg HNE.out.2]
          obtain ⟨B1, hB1⟩ : ∃ B1, B1 = B0.drewN n := ⟨_, rfl⟩
          rw [← hB1]
          have kk1 : KB F0 B0 B1 := by rw [hB1]; exact (KB.refl _ _).drewN n
          replace c2 := kk1.cell (p := ⟨w0.heap.size, 2, none⟩) (fun x => x) c2
          replace c3 := kk1.cell (p := ⟨w0.heap.size, 3, none⟩) (fun x => x) c3
          replace K := K.trans kk1
          clear kk1 hB1
          go_wp2_with fail
          refine wp_region_rv 21 GK (kindW [(4, OneRow B1.heap.size (u8s [5]) 41, OneRowAt B1.heap.size (u8s [5]) 41), (5, KdP, KdW [5]), (6, fun v => v = .bool true, fun _ _ => True), (9, OneRow B1.heap.size (u8s [7]) 41, OneRowAt B1.heap.size (u8s [7]) 41), (10, KdP, KdW [7]), (11, fun v => v = .bool true, fun _ _ => True), (15, OneRow B1.heap.size (u8s [13]) 41, OneRowAt B1.heap.size (u8s [13]) 41), (16, KdP, KdW [13]), (17, CrP, CrW [.ty, .kd [13]]), (18, fun v => v = .bool true, fun _ _ => True)]) (by kernel_rfl) (by kernel_rfl) (kb_trans _) (kb_refl _) (kb_start _ _) (kindW_mono _ (by intro p hp; simp only [List.mem_cons, List.not_mem_nil, or_false] at hp; rcases hp with rfl | rfl | rfl | rfl | rfl | rfl | rfl | rfl | rfl | rfl <;> first | exact lasts_row _ _ _ | exact lasts_kd _ | exact lasts_cr _ | exact lasts_true)) ?_
          simp only [List.take_succ_cons, List.take_zero, List.drop_succ_cons, List.drop_zero]
          iterate 4 (refine rv_det (by kernel_rfl) rfl (by intro w hG hH; go_simp; first | done | with_reducible rfl) ?_; simp only [Act.put, List.setIfInBounds_toArray, List.set_cons_zero, List.set_cons_succ])
          refine rv_rel (by kernel_rfl) rfl ⟨.slice (some ⟨_, 0, none⟩) 1 1, _, rfl, Nat.le_refl _⟩ (fun w hG hH => opVal_row hG (by go_simp; first | done | rfl)) ?_
          rintro v ⟨nb, rfl, hnb⟩
          simp only [Act.put, List.setIfInBounds_toArray, List.set_cons_zero, List.set_cons_succ]
          refine rv_rel (by kernel_rfl) rfl ⟨.func (.func 188) #[] #[.pointer (some ⟨0, 0, none⟩)], _, rfl⟩ (by
            intro w hG hH
            obtain ⟨b', e1, -, hf⟩ := hH _ (List.Mem.head _) (by kernel_rfl)
            simp only [Value.slice.injEq, Option.some.injEq, Addr.mk.injEq, and_true] at e1
            subst e1
            refine opVal_call (by go_simp; first | done | exact ⟨⟨rfl, rfl⟩, rfl⟩) ?_
            refine (kindCall (ks := [5]) _ (by decide) hf).mono ?_
            rintro e w' ⟨b, rfl, hv, hk⟩
            exact ⟨_, rfl, ⟨_, rfl⟩, hk, ⟨_, rfl, hv⟩⟩) ?_
          rintro v ⟨kb, rfl⟩
          simp only [Act.put, List.setIfInBounds_toArray, List.set_cons_zero, List.set_cons_succ]
          refine rv_rel (by kernel_rfl) rfl ⟨_, rfl⟩ (by
            intro w hG hH
            obtain ⟨_, -, hv⟩ := hH _ (List.Mem.head _) (by kernel_rfl)
            refine opVal_call (by go_simp; first | done | exact ⟨⟨rfl, rfl⟩, rfl⟩) ?_
            refine (HA1.out _ _ (K.trans hG) hv).mono ?_
            rintro e w' ⟨rfl, hk⟩
            exact ⟨_, rfl, rfl, hk, trivial⟩) ?_
          rintro v rfl
          simp only [Act.put, List.setIfInBounds_toArray, List.set_cons_zero, List.set_cons_succ]
          refine rv_det (by kernel_rfl) rfl (by intro w hG hH; go_simp; first | done | with_reducible rfl) ?_
          simp only [Act.put, List.setIfInBounds_toArray, List.set_cons_zero, List.set_cons_succ]
          refine rv_det (by kernel_rfl) rfl (by intro w hG hH; go_simp; first | done | with_reducible rfl) ?_
          simp only [Act.put, List.setIfInBounds_toArray, List.set_cons_zero, List.set_cons_succ]
          refine rv_rel (by kernel_rfl) rfl ⟨.slice (some ⟨_, 0, none⟩) 1 1, _, rfl, Nat.le_refl _⟩ (fun w hG hH => opVal_row hG (by go_simp; first | done | rfl)) ?_
          rintro v ⟨nb, rfl, hnb⟩
          simp only [Act.put, List.setIfInBounds_toArray, List.set_cons_zero, List.set_cons_succ]
          refine rv_rel (by kernel_rfl) rfl ⟨.func (.func 188) #[] #[.pointer (some ⟨0, 0, none⟩)], _, rfl⟩ (by
            intro w hG hH
            obtain ⟨b', e1, -, hf⟩ := hH _ (List.Mem.head _) (by kernel_rfl)
            simp only [Value.slice.injEq, Option.some.injEq, Addr.mk.injEq, and_true] at e1
            subst e1
            refine opVal_call (by go_simp; first | done | exact ⟨⟨rfl, rfl⟩, rfl⟩) ?_
            refine (kindCall (ks := [7]) _ (by decide) hf).mono ?_
            rintro e w' ⟨b, rfl, hv, hk⟩
            exact ⟨_, rfl, ⟨_, rfl⟩, hk, ⟨_, rfl, hv⟩⟩) ?_
          rintro v ⟨kb, rfl⟩
          simp only [Act.put, List.setIfInBounds_toArray, List.set_cons_zero, List.set_cons_succ]
          refine rv_rel (by kernel_rfl) rfl ⟨_, rfl⟩ (by
            intro w hG hH
            obtain ⟨_, -, hv⟩ := hH _ (List.Mem.head _) (by kernel_rfl)
            refine opVal_call (by go_simp; first | done | exact ⟨⟨rfl, rfl⟩, rfl⟩) ?_
            refine (HA2.out _ _ (K.trans hG) hv).mono ?_
            rintro e w' ⟨rfl, hk⟩
            exact ⟨_, rfl, rfl, hk, trivial⟩) ?_
          rintro v rfl
          simp only [Act.put, List.setIfInBounds_toArray, List.set_cons_zero, List.set_cons_succ]
          iterate 2 (refine rv_det (by kernel_rfl) rfl (by intro w hG hH; go_simp; first | done | with_reducible rfl) ?_; simp only [Act.put, List.setIfInBounds_toArray, List.set_cons_zero, List.set_cons_succ])
          refine rv_det (by kernel_rfl) rfl (by intro w hG hH; go_simp; first | done | with_reducible rfl) ?_
          simp only [Act.put, List.setIfInBounds_toArray, List.set_cons_zero, List.set_cons_succ]
          refine rv_rel (by kernel_rfl) rfl ⟨.slice (some ⟨_, 0, none⟩) 1 1, _, rfl, Nat.le_refl _⟩ (fun w hG hH => opVal_row hG (by go_simp; first | done | rfl)) ?_
          rintro v ⟨nb, rfl, hnb⟩
          simp only [Act.put, List.setIfInBounds_toArray, List.set_cons_zero, List.set_cons_succ]
          refine rv_rel (by kernel_rfl) rfl ⟨.func (.func 188) #[] #[.pointer (some ⟨0, 0, none⟩)], _, rfl⟩ (by
            intro w hG hH
            obtain ⟨b', e1, -, hf⟩ := hH _ (List.Mem.head _) (by kernel_rfl)
            simp only [Value.slice.injEq, Option.some.injEq, Addr.mk.injEq, and_true] at e1
            subst e1
            refine opVal_call (by go_simp; first | done | exact ⟨⟨rfl, rfl⟩, rfl⟩) ?_
            refine (kindCall (ks := [13]) _ (by decide) hf).mono ?_
            rintro e w' ⟨b, rfl, hv, hk⟩
            exact ⟨_, rfl, ⟨_, rfl⟩, hk, ⟨_, rfl, hv⟩⟩) ?_
          rintro v ⟨kb, rfl⟩
          simp only [Act.put, List.setIfInBounds_toArray, List.set_cons_zero, List.set_cons_succ]
          refine rv_rel (by kernel_rfl) rfl ⟨.slice (some ⟨0, 0, none⟩) 2 2, _, rfl⟩ (by
            intro w hG hH
            obtain ⟨_, -, hv⟩ := hH _ (List.Mem.head _) (by kernel_rfl)
            refine opVal_value (v := .slice (some ⟨w.heap.size, 0, none⟩) 2 2) (w' := w.alloc _) (by go_simp; first | done | rfl) ?_
            exact ⟨⟨_, rfl⟩, (KB.refl _ w).alloc _, ⟨_, rfl, clsat2 (show ClsV _ (.func (.func 157) #[] #[]) .ty from rfl) hv⟩⟩) ?_
          rintro v ⟨cb, rfl⟩
          simp only [Act.put, List.setIfInBounds_toArray, List.set_cons_zero, List.set_cons_succ]
          refine rv_rel (by kernel_rfl) rfl ⟨_, rfl⟩ (by
            intro w hG hH
            obtain ⟨b', e1, hv⟩ := hH _ (List.Mem.head _) (by kernel_rfl)
            simp only [Value.slice.injEq, Option.some.injEq, Addr.mk.injEq, and_true] at e1
            subst e1
            refine opVal_call (by go_simp; first | done | exact ⟨⟨rfl, rfl⟩, rfl⟩) ?_
            refine (HJ.out _ _ _ (K.trans hG) hv).mono ?_
            rintro e w' ⟨rfl, hk⟩
            exact ⟨_, rfl, rfl, hk, trivial⟩) ?_
          rintro v rfl
          simp only [Act.put, List.setIfInBounds_toArray, List.set_cons_zero, List.set_cons_succ]
          iterate 2 (refine rv_det (by kernel_rfl) rfl (by intro w hG hH; go_simp; first | done | with_reducible rfl) ?_; simp only [Act.put, List.setIfInBounds_toArray, List.set_cons_zero, List.set_cons_succ])
          refine rv_nil (fun w hG hH => ?_)
          clear hH
          replace c2 := hG.cell (p := ⟨w0.heap.size, 2, none⟩) (fun x => x) c2
          replace c3 := hG.cell (p := ⟨w0.heap.size, 3, none⟩) (fun x => x) c3
          replace K := K.trans hG
          clear hG
          go_wp2_with fail
          refine (HN.out _ (K.trans (by repeat (first | exact KB.refl _ _ | refine KB.alloc ?_ _)))).mono ?_
          rintro e W1 ⟨rfl, hkk⟩
          have kk9 : KB F0 w W1 := KB.trans (by repeat (first | exact KB.refl _ _ | refine KB.alloc ?_ _)) hkk
          replace c2 := kk9.cell (p := ⟨w0.heap.size, 2, none⟩) (fun x => x) c2
          replace K := K.trans kk9
          clear kk9 hkk
          go_wp2_with fail
          go_ret
          exact ⟨ret_eq (by rw [Hr.out]; rfl), K⟩
set_option maxRecDepth 100000 in
set_option maxHeartbeats 4000000 in
theorem asks_4lt (at_ nv : Int) (s : ByteArray) (la : Option Addr) (ll lc : Nat) (a : Option Addr) (l : List Nat) (cap : Nat) (w : World) (hs : s.size ≤ 9223372036854775807) (hl : l.length ≤ 9223372036854775807) (hT : Tab w) (hlt : ¬ (max 0 (min nv 8)).toNat + 2 ≤ l.length) :
    Calls Tryz.prog 118 #[.agg #[.int .u8 4, .int .i64 at_, .int .i64 nv, .string s, .slice la ll lc], .slice a l.length cap] w fun e w' => e = .returned (.bool (askB 4 nv s l)) ∧ KB F0 w w' := by
  obtain ⟨w0, rfl⟩ : ∃ w0, w0 = w := ⟨_, rfl⟩
  obtain ⟨kk, hkk⟩ : ∃ kk, kk = (max 0 (min nv 8)).toNat := ⟨_, rfl⟩
  have hm : max 0 (min nv 8) = (kk : Int) := by omega
  have hk8 : kk ≤ 8 := by omega
  rw [← hkk] at hlt
  have Hr : Hid (askB 4 nv s l = false) := Lib.hid (by
    show (fnB nv l && nameB s && decide ((0 : Int) ≤ nv) && decide (nv ≤ (8 : Int))) = _
    unfold fnB
    simp only [← hkk, if_neg hlt, Bool.false_and])
  have HN := Lib.hid (fun W (hk : KB F0 w0 W) => name_any s W hs (hT.kb hk))
  generalize nameB s = bN at HN
  obtain ⟨L, hL⟩ : ∃ L, L = l.length := ⟨_, rfl⟩
  rw [← hL] at hl hlt ⊢
  have e0 : ¬ (kk : Int) + 2 ≤ (L : Int) := by omega
  have e1 : (L : Int) < (kk : Int) + 2 := by omega
  have d0 : decide ((kk : Int) + 2 ≤ (L : Int)) = false := by simp; omega
  obtain ⟨B0, hB0⟩ : ∃ B0, B0 = (w0.alloc (.cells #[.int .u8 4, .int .i64 at_, .int .i64 nv, .string s, .slice la ll lc] 44)) := ⟨_, rfl⟩
  have K : KB F0 w0 B0 := by subst hB0; exact (KB.refl _ _).alloc _
  have c2 : B0.cell? ⟨w0.heap.size, 2, none⟩ = some (.int .i64 nv) := by subst hB0; exact new_cell _ _ _ 2
  have HB0 := Lib.hid hB0
  clear hB0 hkk hL hT hlt
  go_enter Tryz.func118, Tryz.ntmps118
  go_wp2_with fail
  rw [← HB0.out]
  refine (HN.out _ (K.trans (by repeat (first | exact KB.refl _ _ | refine KB.alloc ?_ _)))).mono ?_
  rintro e W1 ⟨rfl, hkk⟩
  have kk9 : KB F0 B0 W1 := KB.trans (by repeat (first | exact KB.refl _ _ | refine KB.alloc ?_ _)) hkk
  replace c2 := kk9.cell (p := ⟨w0.heap.size, 2, none⟩) (fun x => x) c2
  replace K := K.trans kk9
  clear kk9 hkk
  go_wp2_with fail
  go_ret
  exact ⟨ret_eq (by rw [Hr.out]; rfl), K⟩
theorem asks_4 (at_ nv : Int) (s : ByteArray) (la : Option Addr) (ll lc : Nat) (a : Option Addr) (l : List Nat) (cap : Nat) (w : World) (hs : s.size ≤ 9223372036854775807) (hl : l.length ≤ 9223372036854775807) (hcap : l.length ≤ cap) (ha : KindsAt w a l) (hT : Tab w) (_ : -9223372036854775808 ≤ nv) (_ : nv ≤ 9223372036854775807) :
    Calls Tryz.prog 118 #[.agg #[.int .u8 4, .int .i64 at_, .int .i64 nv, .string s, .slice la ll lc], .slice a l.length cap] w fun e w' => e = .returned (.bool (askB 4 nv s l)) ∧ KB F0 w w' := by
  by_cases h : (max 0 (min nv 8)).toNat + 2 ≤ l.length
  · exact asks_4ge at_ nv s la ll lc a l cap w hs hl hcap ha hT h
  · exact asks_4lt at_ nv s la ll lc a l cap w hs hl hT h
end Go.Proofs.YtoophdcagpfmpaaGreatDoor

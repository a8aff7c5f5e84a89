/- loanwordref03.children at each kind of nodes. -/
import Derived.Test.YtoophdcagpfmpaaGreatDoorMg39
namespace Go.Proofs.YtoophdcagpfmpaaGreatDoor
open Go.RowKit
section
variable (at_ n : Int) (s : ByteArray) (la : Option Addr) (ll lc : Nat) (a : Option Addr) (l : List Nat) (cap : Nat) (w : World)
set_option maxRecDepth 100000 in
set_option maxHeartbeats 40000000 in
theorem ch_g3 (hl : l.length ≤ 16384) (hb : ∀ y ∈ l, y < 256) (ha : KindsAt w a l) (k : Nat) (ki : Int) (hk : k = 3 ∧ ki = 3 ∨ k = 7 ∧ ki = 7 ∨ k = 10 ∧ ki = 10 ∨ k = 11 ∧ ki = 11) :
    Calls Tryz.prog 116 #[.agg #[.int .u8 ki, .int .i64 at_, .int .i64 n, .string s, .slice la ll lc], .slice a l.length cap] w fun e w' => e = .returned (.bool ((askR k n s l).1)) ∧ KB F0 w w' := by
  obtain ⟨w0, rfl⟩ : ∃ w0, w0 = w := ⟨_, rfl⟩
  obtain ⟨B0, HB0, K, -, -, -, -, HB0s⟩ := boxN w0 ki at_ n s la ll lc
  have Hr : Hid ((askR k n s l).1 = justB l [.ty]) := Lib.hid (by rcases hk with ⟨rfl, rfl⟩ | ⟨rfl, rfl⟩ | ⟨rfl, rfl⟩ | ⟨rfl, rfl⟩ <;> rfl)
  have HJ := Lib.hid (fun W a2 cap2 (hk : KB F0 w0 W) (hc : codesAt W a2 [.ty]) => cjust_any a a2 l [.ty] 1 cap cap2 rfl (by intro c hc; simp only [List.mem_cons, List.not_mem_nil, or_false] at hc; subst hc <;> first | trivial | (simp [Plain]; done)) W (by omega) (by decide) hb (ha.kbF hk) hc)
  generalize justB l [.ty] = b0 at HJ Hr
  generalize (askR k n s l).1 = ok at Hr ⊢
  clear ha hb
  rcases hk with ⟨rfl, rfl⟩ | ⟨rfl, rfl⟩ | ⟨rfl, rfl⟩ | ⟨rfl, rfl⟩
  all_goals
    cases b0
    all_goals
      go_enter Tryz.func116, Tryz.ntmps116
      go_wp2_with fail
      rw [← HB0.out]
      try rw [HB0s.out]
      refine (HJ.out _ _ _ (K.trans (by repeat (first | exact KB.refl _ _ | refine KB.alloc ?_ _))) (codes_new (W := B0) [.ty])).mono ?_
      rintro e _ ⟨rfl, rfl⟩
      go_wp2_with fail
      go_ret
      exact ⟨ret_eq (by rw [Hr.out]; rfl), K.trans (by repeat (first | exact KB.refl _ _ | refine KB.alloc ?_ _))⟩
set_option maxRecDepth 100000 in
set_option maxHeartbeats 40000000 in
theorem ch_g15 (hl : l.length ≤ 16384) (hb : ∀ y ∈ l, y < 256) (ha : KindsAt w a l) (k : Nat) (ki : Int) (hk : k = 15 ∧ ki = 15 ∨ k = 32 ∧ ki = 32) :
    Calls Tryz.prog 116 #[.agg #[.int .u8 ki, .int .i64 at_, .int .i64 n, .string s, .slice la ll lc], .slice a l.length cap] w fun e w' => e = .returned (.bool ((askR k n s l).1)) ∧ KB F0 w w' := by
  obtain ⟨w0, rfl⟩ : ∃ w0, w0 = w := ⟨_, rfl⟩
  obtain ⟨B0, HB0, K, -, -, -, -, HB0s⟩ := boxN w0 ki at_ n s la ll lc
  have Hr : Hid ((askR k n s l).1 = justB l [.ex, .ex]) := Lib.hid (by rcases hk with ⟨rfl, rfl⟩ | ⟨rfl, rfl⟩ <;> rfl)
  have HJ := Lib.hid (fun W a2 cap2 (hk : KB F0 w0 W) (hc : codesAt W a2 [.ex, .ex]) => cjust_any a a2 l [.ex, .ex] 2 cap cap2 rfl (by intro c hc; simp only [List.mem_cons, List.not_mem_nil, or_false] at hc; rcases hc with rfl | rfl <;> first | trivial | (simp [Plain]; done)) W (by omega) (by decide) hb (ha.kbF hk) hc)
  generalize justB l [.ex, .ex] = b0 at HJ Hr
  generalize (askR k n s l).1 = ok at Hr ⊢
  clear ha hb
  rcases hk with ⟨rfl, rfl⟩ | ⟨rfl, rfl⟩
  all_goals
    cases b0
    all_goals
      go_enter Tryz.func116, Tryz.ntmps116
      go_wp2_with fail
      rw [← HB0.out]
      try rw [HB0s.out]
      refine (HJ.out _ _ _ (K.trans (by repeat (first | exact KB.refl _ _ | refine KB.alloc ?_ _))) (codes_new (W := B0) [.ex, .ex])).mono ?_
      rintro e _ ⟨rfl, rfl⟩
      go_wp2_with fail
      go_ret
      exact ⟨ret_eq (by rw [Hr.out]; rfl), K.trans (by repeat (first | exact KB.refl _ _ | refine KB.alloc ?_ _))⟩
set_option maxRecDepth 100000 in
set_option maxHeartbeats 40000000 in
theorem ch_g17 (hl : l.length ≤ 16384) (hb : ∀ y ∈ l, y < 256) (ha : KindsAt w a l) (k : Nat) (ki : Int) (hk : k = 17 ∧ ki = 17) :
    Calls Tryz.prog 116 #[.agg #[.int .u8 ki, .int .i64 at_, .int .i64 n, .string s, .slice la ll lc], .slice a l.length cap] w fun e w' => e = .returned (.bool ((askR k n s l).1)) ∧ KB F0 w w' := by
  obtain ⟨w0, rfl⟩ : ∃ w0, w0 = w := ⟨_, rfl⟩
  obtain ⟨B0, HB0, K, -, -, -, -, HB0s⟩ := boxN w0 ki at_ n s la ll lc
  have Hr : Hid ((askR k n s l).1 = justB l [.ex, .kd [13]]) := Lib.hid (by rcases hk with ⟨rfl, rfl⟩ <;> rfl)
  have HJ := Lib.hid (fun W a2 cap2 (hk : KB F0 w0 W) (hc : codesAt W a2 [.ex, .kd [13]]) => cjust_any a a2 l [.ex, .kd [13]] 2 cap cap2 rfl (by intro c hc; simp only [List.mem_cons, List.not_mem_nil, or_false] at hc; rcases hc with rfl | rfl <;> first | trivial | (simp [Plain]; done)) W (by omega) (by decide) hb (ha.kbF hk) hc)
  generalize justB l [.ex, .kd [13]] = b0 at HJ Hr
  generalize (askR k n s l).1 = ok at Hr ⊢
  clear ha hb
  obtain ⟨rfl, rfl⟩ := hk
  cases b0
  all_goals
    go_enter Tryz.func116, Tryz.ntmps116
    go_wp2_with fail
    rw [← HB0.out]
    try rw [HB0s.out]
    refine (ckind_any 13 (by decide) _).mono ?_
    rintro e _ ⟨rfl, rfl⟩
    go_wp2_with fail
    try rw [HB0s.out]
    refine (HJ.out _ _ _ (K.trans (by repeat (first | exact KB.refl _ _ | refine KB.alloc ?_ _))) (codes_new (W := B0) [.ex, .kd [13]])).mono ?_
    rintro e _ ⟨rfl, rfl⟩
    go_wp2_with fail
    go_ret
    exact ⟨ret_eq (by rw [Hr.out]; rfl), K.trans (by repeat (first | exact KB.refl _ _ | refine KB.alloc ?_ _))⟩
set_option maxRecDepth 100000 in
set_option maxHeartbeats 40000000 in
theorem ch_g18 (hl : l.length ≤ 16384) (hb : ∀ y ∈ l, y < 256) (ha : KindsAt w a l) (k : Nat) (ki : Int) (hk : k = 18 ∧ ki = 18) :
    Calls Tryz.prog 116 #[.agg #[.int .u8 ki, .int .i64 at_, .int .i64 n, .string s, .slice la ll lc], .slice a l.length cap] w fun e w' => e = .returned (.bool ((askR k n s l).1)) ∧ KB F0 w w' := by
  obtain ⟨w0, rfl⟩ : ∃ w0, w0 = w := ⟨_, rfl⟩
  obtain ⟨B0, HB0, K, -, -, -, -, HB0s⟩ := boxN w0 ki at_ n s la ll lc
  have Hr : Hid ((askR k n s l).1 = justB l [.kd [13]]) := Lib.hid (by rcases hk with ⟨rfl, rfl⟩ <;> rfl)
  have HJ := Lib.hid (fun W a2 cap2 (hk : KB F0 w0 W) (hc : codesAt W a2 [.kd [13]]) => cjust_any a a2 l [.kd [13]] 1 cap cap2 rfl (by intro c hc; simp only [List.mem_cons, List.not_mem_nil, or_false] at hc; subst hc <;> first | trivial | (simp [Plain]; done)) W (by omega) (by decide) hb (ha.kbF hk) hc)
  generalize justB l [.kd [13]] = b0 at HJ Hr
  generalize (askR k n s l).1 = ok at Hr ⊢
  clear ha hb
  obtain ⟨rfl, rfl⟩ := hk
  cases b0
  all_goals
    go_enter Tryz.func116, Tryz.ntmps116
    go_wp2_with fail
    rw [← HB0.out]
    try rw [HB0s.out]
    refine (ckind_any 13 (by decide) _).mono ?_
    rintro e _ ⟨rfl, rfl⟩
    go_wp2_with fail
    try rw [HB0s.out]
    refine (HJ.out _ _ _ (K.trans (by repeat (first | exact KB.refl _ _ | refine KB.alloc ?_ _))) (codes_new (W := B0) [.kd [13]])).mono ?_
    rintro e _ ⟨rfl, rfl⟩
    go_wp2_with fail
    go_ret
    exact ⟨ret_eq (by rw [Hr.out]; rfl), K.trans (by repeat (first | exact KB.refl _ _ | refine KB.alloc ?_ _))⟩
set_option maxRecDepth 100000 in
set_option maxHeartbeats 40000000 in
theorem ch_g21 (hl : l.length ≤ 16384) (hb : ∀ y ∈ l, y < 256) (ha : KindsAt w a l) (k : Nat) (ki : Int) (hk : k = 21 ∧ ki = 21 ∨ k = 22 ∧ ki = 22 ∨ k = 27 ∧ ki = 27 ∨ k = 28 ∧ ki = 28 ∨ k = 29 ∧ ki = 29 ∨ k = 30 ∧ ki = 30 ∨ k = 31 ∧ ki = 31 ∨ k = 35 ∧ ki = 35 ∨ k = 36 ∧ ki = 36) :
    Calls Tryz.prog 116 #[.agg #[.int .u8 ki, .int .i64 at_, .int .i64 n, .string s, .slice la ll lc], .slice a l.length cap] w fun e w' => e = .returned (.bool ((askR k n s l).1)) ∧ KB F0 w w' := by
  obtain ⟨w0, rfl⟩ : ∃ w0, w0 = w := ⟨_, rfl⟩
  obtain ⟨B0, HB0, K, -, -, -, -, HB0s⟩ := boxN w0 ki at_ n s la ll lc
  have Hr : Hid ((askR k n s l).1 = justB l [.ex]) := Lib.hid (by rcases hk with ⟨rfl, rfl⟩ | ⟨rfl, rfl⟩ | ⟨rfl, rfl⟩ | ⟨rfl, rfl⟩ | ⟨rfl, rfl⟩ | ⟨rfl, rfl⟩ | ⟨rfl, rfl⟩ | ⟨rfl, rfl⟩ | ⟨rfl, rfl⟩ <;> rfl)
  have HJ := Lib.hid (fun W a2 cap2 (hk : KB F0 w0 W) (hc : codesAt W a2 [.ex]) => cjust_any a a2 l [.ex] 1 cap cap2 rfl (by intro c hc; simp only [List.mem_cons, List.not_mem_nil, or_false] at hc; subst hc <;> first | trivial | (simp [Plain]; done)) W (by omega) (by decide) hb (ha.kbF hk) hc)
  generalize justB l [.ex] = b0 at HJ Hr
  generalize (askR k n s l).1 = ok at Hr ⊢
  clear ha hb
  rcases hk with ⟨rfl, rfl⟩ | ⟨rfl, rfl⟩ | ⟨rfl, rfl⟩ | ⟨rfl, rfl⟩ | ⟨rfl, rfl⟩ | ⟨rfl, rfl⟩ | ⟨rfl, rfl⟩ | ⟨rfl, rfl⟩ | ⟨rfl, rfl⟩
  all_goals
    cases b0
    all_goals
      go_enter Tryz.func116, Tryz.ntmps116
      go_wp2_with fail
      rw [← HB0.out]
      try rw [HB0s.out]
      refine (HJ.out _ _ _ (K.trans (by repeat (first | exact KB.refl _ _ | refine KB.alloc ?_ _))) (codes_new (W := B0) [.ex])).mono ?_
      rintro e _ ⟨rfl, rfl⟩
      go_wp2_with fail
      go_ret
      exact ⟨ret_eq (by rw [Hr.out]; rfl), K.trans (by repeat (first | exact KB.refl _ _ | refine KB.alloc ?_ _))⟩
set_option maxRecDepth 100000 in
set_option maxHeartbeats 40000000 in
theorem ch_g23 (hl : l.length ≤ 16384) (hb : ∀ y ∈ l, y < 256) (ha : KindsAt w a l) (k : Nat) (ki : Int) (hk : k = 23 ∧ ki = 23) :
    Calls Tryz.prog 116 #[.agg #[.int .u8 ki, .int .i64 at_, .int .i64 n, .string s, .slice la ll lc], .slice a l.length cap] w fun e w' => e = .returned (.bool ((askR k n s l).1)) ∧ KB F0 w w' := by
  obtain ⟨w0, rfl⟩ : ∃ w0, w0 = w := ⟨_, rfl⟩
  obtain ⟨B0, HB0, K, -, -, -, -, HB0s⟩ := boxN w0 ki at_ n s la ll lc
  have Hr : Hid ((askR k n s l).1 = justB l [.kd [33]]) := Lib.hid (by rcases hk with ⟨rfl, rfl⟩ <;> rfl)
  have HJ := Lib.hid (fun W a2 cap2 (hk : KB F0 w0 W) (hc : codesAt W a2 [.kd [33]]) => cjust_any a a2 l [.kd [33]] 1 cap cap2 rfl (by intro c hc; simp only [List.mem_cons, List.not_mem_nil, or_false] at hc; subst hc <;> first | trivial | (simp [Plain]; done)) W (by omega) (by decide) hb (ha.kbF hk) hc)
  generalize justB l [.kd [33]] = b0 at HJ Hr
  generalize (askR k n s l).1 = ok at Hr ⊢
  clear ha hb
  obtain ⟨rfl, rfl⟩ := hk
  cases b0
  all_goals
    go_enter Tryz.func116, Tryz.ntmps116
    go_wp2_with fail
    rw [← HB0.out]
    try rw [HB0s.out]
    refine (ckind_any 33 (by decide) _).mono ?_
    rintro e _ ⟨rfl, rfl⟩
    go_wp2_with fail
    try rw [HB0s.out]
    refine (HJ.out _ _ _ (K.trans (by repeat (first | exact KB.refl _ _ | refine KB.alloc ?_ _))) (codes_new (W := B0) [.kd [33]])).mono ?_
    rintro e _ ⟨rfl, rfl⟩
    go_wp2_with fail
    go_ret
    exact ⟨ret_eq (by rw [Hr.out]; rfl), K.trans (by repeat (first | exact KB.refl _ _ | refine KB.alloc ?_ _))⟩
set_option maxRecDepth 100000 in
set_option maxHeartbeats 40000000 in
theorem ch_14a (hl : l.length ≤ 16384) (hb : ∀ y ∈ l, y < 256) (ha : KindsAt w a l) (hv : n = 1) :
    Calls Tryz.prog 116 #[.agg #[.int .u8 14, .int .i64 at_, .int .i64 n, .string s, .slice la ll lc], .slice a l.length cap] w fun e w' => e = .returned (.bool ((askR 14 n s l).1)) ∧ KB F0 w w' := by
  obtain ⟨w0, rfl⟩ : ∃ w0, w0 = w := ⟨_, rfl⟩
  obtain ⟨B0, HB0, K, -, -, -, -, HB0s⟩ := boxN w0 14 at_ n s la ll lc
  have Hr : Hid ((askR 14 n s l).1 = justB l [.ty]) := Lib.hid (by rw [hv]; rfl)
  have q1 : (n == 1) = true := by rw [hv]; rfl
  clear hv
  have HJ := Lib.hid (fun W a2 cap2 (hk : KB F0 w0 W) (hc : codesAt W a2 [.ty]) => cjust_any a a2 l [.ty] 1 cap cap2 rfl (by intro c hc; simp only [List.mem_cons, List.not_mem_nil, or_false] at hc; subst hc <;> first | trivial | (simp [Plain]; done)) W (by omega) (by decide) hb (ha.kbF hk) hc)
  generalize justB l [.ty] = b0 at HJ Hr
  generalize (askR 14 n s l).1 = ok at Hr ⊢
  clear ha hb
  cases b0
  all_goals
    go_enter Tryz.func116, Tryz.ntmps116
    go_wp2_with fail
    rw [← HB0.out]
    try rw [HB0s.out]
    refine (HJ.out _ _ _ (K.trans (by repeat (first | exact KB.refl _ _ | refine KB.alloc ?_ _))) (codes_new (W := B0) [.ty])).mono ?_
    rintro e _ ⟨rfl, rfl⟩
    go_wp2_with fail
    go_ret
    exact ⟨ret_eq (by rw [Hr.out]; rfl), K.trans (by repeat (first | exact KB.refl _ _ | refine KB.alloc ?_ _))⟩
set_option maxRecDepth 100000 in
set_option maxHeartbeats 40000000 in
theorem ch_14b (hl : l.length ≤ 16384) (hb : ∀ y ∈ l, y < 256) (ha : KindsAt w a l) (hv : n = 2) :
    Calls Tryz.prog 116 #[.agg #[.int .u8 14, .int .i64 at_, .int .i64 n, .string s, .slice la ll lc], .slice a l.length cap] w fun e w' => e = .returned (.bool ((askR 14 n s l).1)) ∧ KB F0 w w' := by
  obtain ⟨w0, rfl⟩ : ∃ w0, w0 = w := ⟨_, rfl⟩
  obtain ⟨B0, HB0, K, -, -, -, -, HB0s⟩ := boxN w0 14 at_ n s la ll lc
  have Hr : Hid ((askR 14 n s l).1 = justB l [.ex]) := Lib.hid (by rw [hv]; rfl)
  have q1 : (n == 1) = false := by rw [hv]; rfl
  have q2 : (n == 2) = true := by rw [hv]; rfl
  clear hv
  have HJ := Lib.hid (fun W a2 cap2 (hk : KB F0 w0 W) (hc : codesAt W a2 [.ex]) => cjust_any a a2 l [.ex] 1 cap cap2 rfl (by intro c hc; simp only [List.mem_cons, List.not_mem_nil, or_false] at hc; subst hc <;> first | trivial | (simp [Plain]; done)) W (by omega) (by decide) hb (ha.kbF hk) hc)
  generalize justB l [.ex] = b0 at HJ Hr
  generalize (askR 14 n s l).1 = ok at Hr ⊢
  clear ha hb
  cases b0
  all_goals
    go_enter Tryz.func116, Tryz.ntmps116
    go_wp2_with fail
    rw [← HB0.out]
    try rw [HB0s.out]
    refine (HJ.out _ _ _ (K.trans (by repeat (first | exact KB.refl _ _ | refine KB.alloc ?_ _))) (codes_new (W := B0) [.ex])).mono ?_
    rintro e _ ⟨rfl, rfl⟩
    go_wp2_with fail
    go_ret
    exact ⟨ret_eq (by rw [Hr.out]; rfl), K.trans (by repeat (first | exact KB.refl _ _ | refine KB.alloc ?_ _))⟩
set_option maxRecDepth 100000 in
set_option maxHeartbeats 40000000 in
theorem ch_14c (hl : l.length ≤ 16384) (hb : ∀ y ∈ l, y < 256) (ha : KindsAt w a l) (hv1 : n ≠ 1) (hv2 : n ≠ 2) :
    Calls Tryz.prog 116 #[.agg #[.int .u8 14, .int .i64 at_, .int .i64 n, .string s, .slice la ll lc], .slice a l.length cap] w fun e w' => e = .returned (.bool ((askR 14 n s l).1)) ∧ KB F0 w w' := by
  obtain ⟨w0, rfl⟩ : ∃ w0, w0 = w := ⟨_, rfl⟩
  obtain ⟨B0, HB0, K, -, -, -, -, HB0s⟩ := boxN w0 14 at_ n s la ll lc
  have Hr : Hid ((askR 14 n s l).1 = justB l [.ty, .ex]) := Lib.hid (by unfold askR; simp only [if_neg hv1, if_neg hv2])
  have q1 : (n == 1) = false := by simp [hv1]
  have q2 : (n == 2) = false := by simp [hv2]
  clear hv1 hv2
  have HJ := Lib.hid (fun W a2 cap2 (hk : KB F0 w0 W) (hc : codesAt W a2 [.ty, .ex]) => cjust_any a a2 l [.ty, .ex] 2 cap cap2 rfl (by intro c hc; simp only [List.mem_cons, List.not_mem_nil, or_false] at hc; rcases hc with rfl | rfl <;> first | trivial | (simp [Plain]; done)) W (by omega) (by decide) hb (ha.kbF hk) hc)
  generalize justB l [.ty, .ex] = b0 at HJ Hr
  generalize (askR 14 n s l).1 = ok at Hr ⊢
  clear ha hb
  cases b0
  all_goals
    go_enter Tryz.func116, Tryz.ntmps116
    go_wp2_with fail
    rw [← HB0.out]
    try rw [HB0s.out]
    refine (HJ.out _ _ _ (K.trans (by repeat (first | exact KB.refl _ _ | refine KB.alloc ?_ _))) (codes_new (W := B0) [.ty, .ex])).mono ?_
    rintro e _ ⟨rfl, rfl⟩
    go_wp2_with fail
    go_ret
    exact ⟨ret_eq (by rw [Hr.out]; rfl), K.trans (by repeat (first | exact KB.refl _ _ | refine KB.alloc ?_ _))⟩
set_option maxRecDepth 100000 in
set_option maxHeartbeats 40000000 in
theorem ch_16a (hl : l.length ≤ 16384) (hb : ∀ y ∈ l, y < 256) (ha : KindsAt w a l) (hv : n = 0) :
    Calls Tryz.prog 116 #[.agg #[.int .u8 16, .int .i64 at_, .int .i64 n, .string s, .slice la ll lc], .slice a l.length cap] w fun e w' => e = .returned (.bool ((askR 16 n s l).1)) ∧ KB F0 w w' := by
  obtain ⟨w0, rfl⟩ : ∃ w0, w0 = w := ⟨_, rfl⟩
  obtain ⟨B0, HB0, K, -, -, -, -, HB0s⟩ := boxN w0 16 at_ n s la ll lc
  have Hr : Hid ((askR 16 n s l).1 = justB l [.ex, .kd [13]]) := Lib.hid (by rw [hv]; unfold askR; simp)
  have q1 : (n == 0) = true := by rw [hv]; rfl
  clear hv
  have HJ := Lib.hid (fun W a2 cap2 (hk : KB F0 w0 W) (hc : codesAt W a2 [.ex, .kd [13]]) => cjust_any a a2 l [.ex, .kd [13]] 2 cap cap2 rfl (by intro c hc; simp only [List.mem_cons, List.not_mem_nil, or_false] at hc; rcases hc with rfl | rfl <;> first | trivial | (simp [Plain]; done)) W (by omega) (by decide) hb (ha.kbF hk) hc)
  generalize justB l [.ex, .kd [13]] = b0 at HJ Hr
  generalize (askR 16 n s l).1 = ok at Hr ⊢
  clear ha hb
  cases b0
  all_goals
    go_enter Tryz.func116, Tryz.ntmps116
    go_wp2_with fail
    rw [← HB0.out]
    try rw [HB0s.out]
    refine (ckind_any 13 (by decide) _).mono ?_
    rintro e _ ⟨rfl, rfl⟩
    go_wp2_with fail
    try rw [HB0s.out]
    refine (HJ.out _ _ _ (K.trans (by repeat (first | exact KB.refl _ _ | refine KB.alloc ?_ _))) (codes_new (W := B0) [.ex, .kd [13]])).mono ?_
    rintro e _ ⟨rfl, rfl⟩
    go_wp2_with fail
    go_ret
    exact ⟨ret_eq (by rw [Hr.out]; rfl), K.trans (by repeat (first | exact KB.refl _ _ | refine KB.alloc ?_ _))⟩
set_option maxRecDepth 100000 in
set_option maxHeartbeats 40000000 in
theorem ch_16b (hl : l.length ≤ 16384) (hb : ∀ y ∈ l, y < 256) (ha : KindsAt w a l) (hv : n = 1) :
    Calls Tryz.prog 116 #[.agg #[.int .u8 16, .int .i64 at_, .int .i64 n, .string s, .slice la ll lc], .slice a l.length cap] w fun e w' => e = .returned (.bool ((askR 16 n s l).1)) ∧ KB F0 w w' := by
  obtain ⟨w0, rfl⟩ : ∃ w0, w0 = w := ⟨_, rfl⟩
  obtain ⟨B0, HB0, K, -, -, -, -, HB0s⟩ := boxN w0 16 at_ n s la ll lc
  have Hr : Hid ((askR 16 n s l).1 = (justB l [.ex, .kd [13], .kd [13]] || justB l [.ex, .kd [13], .kd [16]])) := Lib.hid (by rw [hv]; unfold askR; simp only [just_or]; simp)
  have q1 : (n == 0) = false := by rw [hv]; rfl
  clear hv
  have HJ := Lib.hid (fun W a2 cap2 (hk : KB F0 w0 W) (hc : codesAt W a2 [.ex, .kd [13], .kd [13]]) => cjust_any a a2 l [.ex, .kd [13], .kd [13]] 3 cap cap2 rfl (by intro c hc; simp only [List.mem_cons, List.not_mem_nil, or_false] at hc; rcases hc with rfl | rfl | rfl <;> first | trivial | (simp [Plain]; done)) W (by omega) (by decide) hb (ha.kbF hk) hc)
  have HJ2 := Lib.hid (fun W a2 cap2 (hk : KB F0 w0 W) (hc : codesAt W a2 [.ex, .kd [13], .kd [16]]) => cjust_any a a2 l [.ex, .kd [13], .kd [16]] 3 cap cap2 rfl (by intro c hc; simp only [List.mem_cons, List.not_mem_nil, or_false] at hc; rcases hc with rfl | rfl | rfl <;> first | trivial | (simp [Plain]; done)) W (by omega) (by decide) hb (ha.kbF hk) hc)
  generalize justB l [.ex, .kd [13], .kd [13]] = b0 at HJ Hr
  generalize justB l [.ex, .kd [13], .kd [16]] = b1 at HJ2 Hr
  generalize (askR 16 n s l).1 = ok at Hr ⊢
  clear ha hb
  cases b0
  · cases b1
    all_goals
      go_enter Tryz.func116, Tryz.ntmps116
      go_wp2_with fail
      rw [← HB0.out]
      try rw [HB0s.out]
      refine (ckind_any 13 (by decide) _).mono ?_
      rintro e _ ⟨rfl, rfl⟩
      go_wp2_with fail
      try rw [HB0s.out]
      refine (ckind_any 13 (by decide) _).mono ?_
      rintro e _ ⟨rfl, rfl⟩
      go_wp2_with fail
      try rw [HB0s.out]
      refine (HJ.out _ _ _ (K.trans (by repeat (first | exact KB.refl _ _ | refine KB.alloc ?_ _))) (codes_new (W := B0) [.ex, .kd [13], .kd [13]])).mono ?_
      rintro e _ ⟨rfl, rfl⟩
      go_wp2_with fail
      obtain ⟨B1, hB1⟩ : ∃ B1, B1 = B0.alloc (.cells #[.int .i64 (codeOf .ex), .int .i64 (codeOf (.kd [13])), .int .i64 (codeOf (.kd [13]))] 3) := ⟨_, rfl⟩
      rw [← hB1]
      have K1 : KB F0 w0 B1 := by rw [hB1]; exact K.alloc _
      have HB1s : Hid (B0.heap.size + 1 = B1.heap.size) := Lib.hid (by rw [hB1]; simp)
      have HB1t : Hid (w0.heap.size + 2 = B1.heap.size) := Lib.hid (by have := HB1s.out; have := HB0s.out; omega)
      clear hB1
      refine (ckind_any 13 (by decide) _).mono ?_
      rintro e _ ⟨rfl, rfl⟩
      go_wp2_with fail
      refine (ckind_any 16 (by decide) _).mono ?_
      rintro e _ ⟨rfl, rfl⟩
      go_wp2_with fail
      try rw [HB1s.out]
      try rw [HB1t.out]
      refine (HJ2.out _ _ _ (K1.trans (by repeat (first | exact KB.refl _ _ | refine KB.alloc ?_ _))) (codes_new (W := B1) [.ex, .kd [13], .kd [16]])).mono ?_
      rintro e _ ⟨rfl, rfl⟩
      go_wp2_with fail
      go_ret
      exact ⟨ret_eq (by rw [Hr.out]; rfl), K1.trans (by repeat (first | exact KB.refl _ _ | refine KB.alloc ?_ _))⟩
  · go_enter Tryz.func116, Tryz.ntmps116
    go_wp2_with fail
    rw [← HB0.out]
    try rw [HB0s.out]
    refine (ckind_any 13 (by decide) _).mono ?_
    rintro e _ ⟨rfl, rfl⟩
    go_wp2_with fail
    try rw [HB0s.out]
    refine (ckind_any 13 (by decide) _).mono ?_
    rintro e _ ⟨rfl, rfl⟩
    go_wp2_with fail
    try rw [HB0s.out]
    refine (HJ.out _ _ _ (K.trans (by repeat (first | exact KB.refl _ _ | refine KB.alloc ?_ _))) (codes_new (W := B0) [.ex, .kd [13], .kd [13]])).mono ?_
    rintro e _ ⟨rfl, rfl⟩
    go_wp2_with fail
    go_ret
    exact ⟨ret_eq (by rw [Hr.out]; rfl), K.trans (by repeat (first | exact KB.refl _ _ | refine KB.alloc ?_ _))⟩
set_option maxRecDepth 100000 in
set_option maxHeartbeats 40000000 in
theorem ch_2 (hl : l.length ≤ 16384) (hb : ∀ y ∈ l, y < 256) (ha : KindsAt w a l) :
    Calls Tryz.prog 116 #[.agg #[.int .u8 2, .int .i64 at_, .int .i64 n, .string s, .slice la ll lc], .slice a l.length cap] w fun e w' => e = .returned (.bool ((askR 2 n s l).1)) ∧ KB F0 w w' := by
  obtain ⟨w0, rfl⟩ : ∃ w0, w0 = w := ⟨_, rfl⟩
  obtain ⟨B0, HB0, K, -, -, -, -, HB0s⟩ := boxN w0 2 at_ n s la ll lc
  have Hr : Hid ((askR 2 n s l).1 = (decide ((1 : Int) ≤ l.length) && decide ((l.length : Int) ≤ 8) && l.all (.kd [3] : Cls).ok)) := Lib.hid rfl
  have HA := Lib.hid (fun W (hk : KB F0 w0 W) => (show Calls Tryz.prog 149 #[.slice a l.length cap, .int .i64 0, .int .i64 l.length, .int .i64 103] W (fun e w' => e = .returned (.bool (l.all (.kd [3] : Cls).ok)) ∧ W = w') from all_full a l cap (.kd [3]) (by decide : _ < 256) W (by omega) hb (ha.kbF hk)))
  generalize l.all (.kd [3] : Cls).ok = b0 at HA Hr
  obtain ⟨b1, hb1⟩ : ∃ b, decide ((1 : Int) ≤ l.length) = b := ⟨_, rfl⟩
  obtain ⟨b2, hb2⟩ : ∃ b, decide ((l.length : Int) ≤ 8) = b := ⟨_, rfl⟩
  rw [hb1, hb2] at Hr
  generalize (askR 2 n s l).1 = ok at Hr ⊢
  clear ha hb
  cases b1
  · go_enter Tryz.func116, Tryz.ntmps116
    go_wp2_with fail
    rw [← HB0.out]
    try rw [HB0s.out]
    go_ret
    exact ⟨ret_eq (by rw [Hr.out]; rfl), K.trans (by repeat (first | exact KB.refl _ _ | refine KB.alloc ?_ _))⟩
  · cases b2
    · go_enter Tryz.func116, Tryz.ntmps116
      go_wp2_with fail
      rw [← HB0.out]
      try rw [HB0s.out]
      go_ret
      exact ⟨ret_eq (by rw [Hr.out]; rfl), K.trans (by repeat (first | exact KB.refl _ _ | refine KB.alloc ?_ _))⟩
    · cases b0
      all_goals
        go_enter Tryz.func116, Tryz.ntmps116
        go_wp2_with fail
        rw [← HB0.out]
        try rw [HB0s.out]
        refine (ckind_any 3 (by decide) _).mono ?_
        rintro e _ ⟨rfl, rfl⟩
        go_wp2_with fail
        try rw [HB0s.out]
        refine (HA.out _ (K.trans (by repeat (first | exact KB.refl _ _ | refine KB.alloc ?_ _)))).mono ?_
        rintro e _ ⟨rfl, rfl⟩
        go_wp2_with fail
        go_ret
        exact ⟨ret_eq (by rw [Hr.out]; rfl), K.trans (by repeat (first | exact KB.refl _ _ | refine KB.alloc ?_ _))⟩
set_option maxRecDepth 100000 in
set_option maxHeartbeats 40000000 in
theorem ch_5 (hl : l.length ≤ 16384) (hb : ∀ y ∈ l, y < 256) (ha : KindsAt w a l) :
    Calls Tryz.prog 116 #[.agg #[.int .u8 5, .int .i64 at_, .int .i64 n, .string s, .slice la ll lc], .slice a l.length cap] w fun e w' => e = .returned (.bool ((askR 5 n s l).1)) ∧ KB F0 w w' := by
  obtain ⟨w0, rfl⟩ : ∃ w0, w0 = w := ⟨_, rfl⟩
  obtain ⟨B0, HB0, K, -, -, -, -, HB0s⟩ := boxN w0 5 at_ n s la ll lc
  have Hr : Hid ((askR 5 n s l).1 = (decide ((0 : Int) ≤ l.length) && decide ((l.length : Int) ≤ 8) && l.all (.kd [6] : Cls).ok)) := Lib.hid rfl
  have HA := Lib.hid (fun W (hk : KB F0 w0 W) => (show Calls Tryz.prog 149 #[.slice a l.length cap, .int .i64 0, .int .i64 l.length, .int .i64 106] W (fun e w' => e = .returned (.bool (l.all (.kd [6] : Cls).ok)) ∧ W = w') from all_full a l cap (.kd [6]) (by decide : _ < 256) W (by omega) hb (ha.kbF hk)))
  generalize l.all (.kd [6] : Cls).ok = b0 at HA Hr
  have hb1 : decide ((0 : Int) ≤ l.length) = true := by simp
  obtain ⟨b2, hb2⟩ : ∃ b, decide ((l.length : Int) ≤ 8) = b := ⟨_, rfl⟩
  rw [hb1, hb2] at Hr
  generalize (askR 5 n s l).1 = ok at Hr ⊢
  clear ha hb
  cases b2
  · go_enter Tryz.func116, Tryz.ntmps116
    go_wp2_with fail
    rw [← HB0.out]
    try rw [HB0s.out]
    go_ret
    exact ⟨ret_eq (by rw [Hr.out]; rfl), K.trans (by repeat (first | exact KB.refl _ _ | refine KB.alloc ?_ _))⟩
  · cases b0
    all_goals
      go_enter Tryz.func116, Tryz.ntmps116
      go_wp2_with fail
      rw [← HB0.out]
      try rw [HB0s.out]
      refine (ckind_any 6 (by decide) _).mono ?_
      rintro e _ ⟨rfl, rfl⟩
      go_wp2_with fail
      try rw [HB0s.out]
      refine (HA.out _ (K.trans (by repeat (first | exact KB.refl _ _ | refine KB.alloc ?_ _)))).mono ?_
      rintro e _ ⟨rfl, rfl⟩
      go_wp2_with fail
      go_ret
      exact ⟨ret_eq (by rw [Hr.out]; rfl), K.trans (by repeat (first | exact KB.refl _ _ | refine KB.alloc ?_ _))⟩
set_option maxRecDepth 100000 in
set_option maxHeartbeats 40000000 in
theorem ch_13 (hl : l.length ≤ 16384) (hb : ∀ y ∈ l, y < 256) (ha : KindsAt w a l) :
    Calls Tryz.prog 116 #[.agg #[.int .u8 13, .int .i64 at_, .int .i64 n, .string s, .slice la ll lc], .slice a l.length cap] w fun e w' => e = .returned (.bool ((askR 13 n s l).1)) ∧ KB F0 w w' := by
  obtain ⟨w0, rfl⟩ : ∃ w0, w0 = w := ⟨_, rfl⟩
  obtain ⟨B0, HB0, K, -, -, -, -, HB0s⟩ := boxN w0 13 at_ n s la ll lc
  have Hr : Hid ((askR 13 n s l).1 = (decide ((0 : Int) ≤ l.length) && decide ((l.length : Int) ≤ 16384) && l.all (.st : Cls).ok)) := Lib.hid rfl
  have HA := Lib.hid (fun W (hk : KB F0 w0 W) => (show Calls Tryz.prog 149 #[.slice a l.length cap, .int .i64 0, .int .i64 l.length, .int .i64 3] W (fun e w' => e = .returned (.bool (l.all (.st : Cls).ok)) ∧ W = w') from all_full a l cap (.st) trivial W (by omega) hb (ha.kbF hk)))
  generalize l.all (.st : Cls).ok = b0 at HA Hr
  have hb1 : decide ((0 : Int) ≤ l.length) = true := by simp
  have hb2 : decide ((l.length : Int) ≤ 16384) = true := by simp; omega
  rw [hb1, hb2] at Hr
  generalize (askR 13 n s l).1 = ok at Hr ⊢
  clear ha hb
  cases b0
  all_goals
    go_enter Tryz.func116, Tryz.ntmps116
    go_wp2_with fail
    rw [← HB0.out]
    try rw [HB0s.out]
    refine (HA.out _ (K.trans (by repeat (first | exact KB.refl _ _ | refine KB.alloc ?_ _)))).mono ?_
    rintro e _ ⟨rfl, rfl⟩
    go_wp2_with fail
    go_ret
    exact ⟨ret_eq (by rw [Hr.out]; rfl), K.trans (by repeat (first | exact KB.refl _ _ | refine KB.alloc ?_ _))⟩
set_option maxRecDepth 100000 in
set_option maxHeartbeats 40000000 in
theorem ch_33 (hl : l.length ≤ 16384) (hb : ∀ y ∈ l, y < 256) (ha : KindsAt w a l) :
    Calls Tryz.prog 116 #[.agg #[.int .u8 33, .int .i64 at_, .int .i64 n, .string s, .slice la ll lc], .slice a l.length cap] w fun e w' => e = .returned (.bool ((askR 33 n s l).1)) ∧ KB F0 w w' := by
  obtain ⟨w0, rfl⟩ : ∃ w0, w0 = w := ⟨_, rfl⟩
  obtain ⟨B0, HB0, K, -, -, -, -, HB0s⟩ := boxN w0 33 at_ n s la ll lc
  have Hr : Hid ((askR 33 n s l).1 = (decide ((0 : Int) ≤ l.length) && decide ((l.length : Int) ≤ 8) && l.all (.ex : Cls).ok)) := Lib.hid rfl
  have HA := Lib.hid (fun W (hk : KB F0 w0 W) => (show Calls Tryz.prog 149 #[.slice a l.length cap, .int .i64 0, .int .i64 l.length, .int .i64 2] W (fun e w' => e = .returned (.bool (l.all (.ex : Cls).ok)) ∧ W = w') from all_full a l cap (.ex) trivial W (by omega) hb (ha.kbF hk)))
  generalize l.all (.ex : Cls).ok = b0 at HA Hr
  have hb1 : decide ((0 : Int) ≤ l.length) = true := by simp
  obtain ⟨b2, hb2⟩ : ∃ b, decide ((l.length : Int) ≤ 8) = b := ⟨_, rfl⟩
  rw [hb1, hb2] at Hr
  generalize (askR 33 n s l).1 = ok at Hr ⊢
  clear ha hb
  cases b2
  · go_enter Tryz.func116, Tryz.ntmps116
    go_wp2_with fail
    rw [← HB0.out]
    try rw [HB0s.out]
    go_ret
    exact ⟨ret_eq (by rw [Hr.out]; rfl), K.trans (by repeat (first | exact KB.refl _ _ | refine KB.alloc ?_ _))⟩
  · cases b0
    all_goals
      go_enter Tryz.func116, Tryz.ntmps116
      go_wp2_with fail
      rw [← HB0.out]
      try rw [HB0s.out]
      refine (HA.out _ (K.trans (by repeat (first | exact KB.refl _ _ | refine KB.alloc ?_ _)))).mono ?_
      rintro e _ ⟨rfl, rfl⟩
      go_wp2_with fail
      go_ret
      exact ⟨ret_eq (by rw [Hr.out]; rfl), K.trans (by repeat (first | exact KB.refl _ _ | refine KB.alloc ?_ _))⟩
set_option maxRecDepth 100000 in
set_option maxHeartbeats 40000000 in
theorem ch_34 (hl : l.length ≤ 16384) (hb : ∀ y ∈ l, y < 256) (ha : KindsAt w a l) :
    Calls Tryz.prog 116 #[.agg #[.int .u8 34, .int .i64 at_, .int .i64 n, .string s, .slice la ll lc], .slice a l.length cap] w fun e w' => e = .returned (.bool ((askR 34 n s l).1)) ∧ KB F0 w w' := by
  obtain ⟨w0, rfl⟩ : ∃ w0, w0 = w := ⟨_, rfl⟩
  obtain ⟨B0, HB0, K, -, -, -, -, HB0s⟩ := boxN w0 34 at_ n s la ll lc
  have Hr : Hid ((askR 34 n s l).1 = (decide ((1 : Int) ≤ l.length) && decide ((l.length : Int) ≤ 8) && l.all (.kd [35] : Cls).ok)) := Lib.hid rfl
  have HA := Lib.hid (fun W (hk : KB F0 w0 W) => (show Calls Tryz.prog 149 #[.slice a l.length cap, .int .i64 0, .int .i64 l.length, .int .i64 135] W (fun e w' => e = .returned (.bool (l.all (.kd [35] : Cls).ok)) ∧ W = w') from all_full a l cap (.kd [35]) (by decide : _ < 256) W (by omega) hb (ha.kbF hk)))
  generalize l.all (.kd [35] : Cls).ok = b0 at HA Hr
  obtain ⟨b1, hb1⟩ : ∃ b, decide ((1 : Int) ≤ l.length) = b := ⟨_, rfl⟩
  obtain ⟨b2, hb2⟩ : ∃ b, decide ((l.length : Int) ≤ 8) = b := ⟨_, rfl⟩
  rw [hb1, hb2] at Hr
  generalize (askR 34 n s l).1 = ok at Hr ⊢
  clear ha hb
  cases b1
  · go_enter Tryz.func116, Tryz.ntmps116
    go_wp2_with fail
    rw [← HB0.out]
    try rw [HB0s.out]
    go_ret
    exact ⟨ret_eq (by rw [Hr.out]; rfl), K.trans (by repeat (first | exact KB.refl _ _ | refine KB.alloc ?_ _))⟩
  · cases b2
    · go_enter Tryz.func116, Tryz.ntmps116
      go_wp2_with fail
      rw [← HB0.out]
      try rw [HB0s.out]
      go_ret
      exact ⟨ret_eq (by rw [Hr.out]; rfl), K.trans (by repeat (first | exact KB.refl _ _ | refine KB.alloc ?_ _))⟩
    · cases b0
      all_goals
        go_enter Tryz.func116, Tryz.ntmps116
        go_wp2_with fail
        rw [← HB0.out]
        try rw [HB0s.out]
        refine (ckind_any 35 (by decide) _).mono ?_
        rintro e _ ⟨rfl, rfl⟩
        go_wp2_with fail
        try rw [HB0s.out]
        refine (HA.out _ (K.trans (by repeat (first | exact KB.refl _ _ | refine KB.alloc ?_ _)))).mono ?_
        rintro e _ ⟨rfl, rfl⟩
        go_wp2_with fail
        go_ret
        exact ⟨ret_eq (by rw [Hr.out]; rfl), K.trans (by repeat (first | exact KB.refl _ _ | refine KB.alloc ?_ _))⟩
set_option maxRecDepth 100000 in
set_option maxHeartbeats 40000000 in
theorem ch_g0 (hl : l.length ≤ 16384) (hb : ∀ y ∈ l, y < 256) (ha : KindsAt w a l) (k : Nat) (ki : Int) (hk : k = 0 ∧ ki = 0 ∨ k = 6 ∧ ki = 6 ∨ k = 8 ∧ ki = 8 ∨ k = 9 ∧ ki = 9 ∨ k = 12 ∧ ki = 12 ∨ k = 19 ∧ ki = 19 ∨ k = 20 ∧ ki = 20 ∨ k = 24 ∧ ki = 24 ∨ k = 25 ∧ ki = 25 ∨ k = 26 ∧ ki = 26 ∨ k = 37 ∧ ki = 37) :
    Calls Tryz.prog 116 #[.agg #[.int .u8 ki, .int .i64 at_, .int .i64 n, .string s, .slice la ll lc], .slice a l.length cap] w fun e w' => e = .returned (.bool (len0B l)) ∧ KB F0 w w' := by
  obtain ⟨w0, rfl⟩ : ∃ w0, w0 = w := ⟨_, rfl⟩
  obtain ⟨B0, HB0, K, -, -, -, -, HB0s⟩ := boxN w0 ki at_ n s la ll lc
  have t0 : ((l.length : Int) == 0) = len0B l := deq1 rfl
  have Hr : Hid (len0B l = len0B l) := Lib.hid (by rcases hk with ⟨rfl, rfl⟩ | ⟨rfl, rfl⟩ | ⟨rfl, rfl⟩ | ⟨rfl, rfl⟩ | ⟨rfl, rfl⟩ | ⟨rfl, rfl⟩ | ⟨rfl, rfl⟩ | ⟨rfl, rfl⟩ | ⟨rfl, rfl⟩ | ⟨rfl, rfl⟩ | ⟨rfl, rfl⟩ <;> rfl)
  generalize len0B l = b0 at t0 Hr ⊢
  clear ha hb
  rcases hk with ⟨rfl, rfl⟩ | ⟨rfl, rfl⟩ | ⟨rfl, rfl⟩ | ⟨rfl, rfl⟩ | ⟨rfl, rfl⟩ | ⟨rfl, rfl⟩ | ⟨rfl, rfl⟩ | ⟨rfl, rfl⟩ | ⟨rfl, rfl⟩ | ⟨rfl, rfl⟩ | ⟨rfl, rfl⟩
  all_goals
    go_enter Tryz.func116, Tryz.ntmps116
    go_wp2_with fail
    rw [← HB0.out]
    go_ret
    exact ⟨rfl, K⟩
set_option maxRecDepth 100000 in
set_option maxHeartbeats 40000000 in
theorem ch_38 (k : Nat) (hk : 38 ≤ k) (hl : l.length ≤ 16384) (hb : ∀ y ∈ l, y < 256) (ha : KindsAt w a l) :
    Calls Tryz.prog 116 #[.agg #[.int .u8 k, .int .i64 at_, .int .i64 n, .string s, .slice la ll lc], .slice a l.length cap] w fun e w' => e = .returned (.bool (len0B l)) ∧ KB F0 w w' := by
  obtain ⟨w0, rfl⟩ : ∃ w0, w0 = w := ⟨_, rfl⟩
  obtain ⟨B0, HB0, K, -, -, -, -, HB0s⟩ := boxN w0 k at_ n s la ll lc
  have u0 : ((k : Int) == 1) = false := by simp; omega
  have u1 : ((k : Int) == 2) = false := by simp; omega
  have u2 : ((k : Int) == 3) = false := by simp; omega
  have u3 : ((k : Int) == 7) = false := by simp; omega
  have u4 : ((k : Int) == 10) = false := by simp; omega
  have u5 : ((k : Int) == 11) = false := by simp; omega
  have u6 : ((k : Int) == 4) = false := by simp; omega
  have u7 : ((k : Int) == 5) = false := by simp; omega
  have u8 : ((k : Int) == 13) = false := by simp; omega
  have u9 : ((k : Int) == 14) = false := by simp; omega
  have u10 : ((k : Int) == 15) = false := by simp; omega
  have u11 : ((k : Int) == 32) = false := by simp; omega
  have u12 : ((k : Int) == 16) = false := by simp; omega
  have u13 : ((k : Int) == 17) = false := by simp; omega
  have u14 : ((k : Int) == 18) = false := by simp; omega
  have u15 : ((k : Int) == 21) = false := by simp; omega
  have u16 : ((k : Int) == 22) = false := by simp; omega
  have u17 : ((k : Int) == 27) = false := by simp; omega
  have u18 : ((k : Int) == 28) = false := by simp; omega
  have u19 : ((k : Int) == 29) = false := by simp; omega
  have u20 : ((k : Int) == 30) = false := by simp; omega
  have u21 : ((k : Int) == 31) = false := by simp; omega
  have u22 : ((k : Int) == 35) = false := by simp; omega
  have u23 : ((k : Int) == 36) = false := by simp; omega
  have u24 : ((k : Int) == 23) = false := by simp; omega
  have u25 : ((k : Int) == 33) = false := by simp; omega
  have u26 : ((k : Int) == 34) = false := by simp; omega
  clear hk
  have t0 : ((l.length : Int) == 0) = len0B l := deq1 rfl
  have Hr : Hid (len0B l = len0B l) := Lib.hid rfl
  generalize len0B l = b0 at t0 Hr ⊢
  clear ha hb
  go_enter Tryz.func116, Tryz.ntmps116
  go_wp2_with fail
  rw [← HB0.out]
  go_ret
  exact ⟨rfl, K⟩
end
end Go.Proofs.YtoophdcagpfmpaaGreatDoor

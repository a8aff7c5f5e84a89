/- loanwordref03.children at each kind of nodes. -/
import Derived.Test.YtjefoojkgocinaaDoorTreeN
namespace Go.Proofs.YtjefoojkgocinaaDoor
open Go.RowKit
set_option maxRecDepth 100000 in
set_option maxHeartbeats 4000000 in
theorem ch_3 (at_ n : Int) (s : ByteArray) (la : Option Addr) (ll lc : Nat) (a : Option Addr) (l : List Nat) (cap : Nat) (w : World) (_hl : l.length ≤ 16384) (hb : ∀ y ∈ l, y < 256) (ha : KindsAt w a l) :
    Calls Tryd.prog 63 #[.agg #[.int .u8 3, .int .i64 at_, .int .i64 n, .string s, .slice la ll lc], .slice a l.length cap] w fun e w' => e = .returned (.bool ((askR 3 n s l).1)) ∧ KB F0 w w' := by
  obtain ⟨w0, rfl⟩ : ∃ w0, w0 = w := ⟨_, rfl⟩
  obtain ⟨B0, hB0⟩ : ∃ B0, B0 = (w0.alloc (.cells #[.int .u8 3, .int .i64 at_, .int .i64 n, .string s, .slice la ll lc] 25)) := ⟨_, rfl⟩
  have K : KB F0 w0 B0 := by subst hB0; exact (KB.refl _ _).alloc _
  have HB0s : Hid (w0.heap.size + 1 = B0.heap.size) := Lib.hid (by subst hB0; simp)
  have HB0 := Lib.hid hB0
  clear hB0
  have Hr : Hid ((askR 3 n s l).1 = justB l [.ty]) := Lib.hid rfl
  have HJ := Lib.hid (fun W a2 cap2 (hk : KB F0 w0 W) (hc : codesAt W a2 [.ty]) => cjust_any a a2 l [.ty] 1 cap cap2 rfl (by intro c hc; simp only [List.mem_cons, List.not_mem_nil, or_false] at hc; subst hc <;> first | trivial | (simp [Plain]; done)) W (by omega) (by decide) hb (ha.kbF hk) hc)
  generalize justB l [.ty] = b0 at HJ Hr
  generalize (askR 3 n s l).1 = ok at Hr ⊢
  clear ha hb
  cases b0
  · go_enter Tryd.func63, Tryd.ntmps63
    go_wp2_with fail
    rw [← HB0.out]
    try rw [HB0s.out]
    refine (HJ.out _ _ _ (K.trans (by repeat (first | exact KB.refl _ _ | refine KB.alloc ?_ _))) (codes_new (W := B0) [.ty])).mono ?_
    rintro e _ ⟨rfl, rfl⟩
    go_wp2_with fail
    go_ret
    exact ⟨ret_eq (by rw [Hr.out]; rfl), K.trans (by repeat (first | exact KB.refl _ _ | refine KB.alloc ?_ _))⟩
  · go_enter Tryd.func63, Tryd.ntmps63
    go_wp2_with fail
    rw [← HB0.out]
    try rw [HB0s.out]
    refine (HJ.out _ _ _ (K.trans (by repeat (first | exact KB.refl _ _ | refine KB.alloc ?_ _))) (codes_new (W := B0) [.ty])).mono ?_
    rintro e _ ⟨rfl, rfl⟩
    go_wp2_with fail
    go_ret
    exact ⟨ret_eq (by rw [Hr.out]; rfl), K.trans (by repeat (first | exact KB.refl _ _ | refine KB.alloc ?_ _))⟩

set_option maxRecDepth 100000 in
set_option maxHeartbeats 4000000 in
theorem ch_7 (at_ n : Int) (s : ByteArray) (la : Option Addr) (ll lc : Nat) (a : Option Addr) (l : List Nat) (cap : Nat) (w : World) (_hl : l.length ≤ 16384) (hb : ∀ y ∈ l, y < 256) (ha : KindsAt w a l) :
    Calls Tryd.prog 63 #[.agg #[.int .u8 7, .int .i64 at_, .int .i64 n, .string s, .slice la ll lc], .slice a l.length cap] w fun e w' => e = .returned (.bool ((askR 7 n s l).1)) ∧ KB F0 w w' := by
  obtain ⟨w0, rfl⟩ : ∃ w0, w0 = w := ⟨_, rfl⟩
  obtain ⟨B0, hB0⟩ : ∃ B0, B0 = (w0.alloc (.cells #[.int .u8 7, .int .i64 at_, .int .i64 n, .string s, .slice la ll lc] 25)) := ⟨_, rfl⟩
  have K : KB F0 w0 B0 := by subst hB0; exact (KB.refl _ _).alloc _
  have HB0s : Hid (w0.heap.size + 1 = B0.heap.size) := Lib.hid (by subst hB0; simp)
  have HB0 := Lib.hid hB0
  clear hB0
  have Hr : Hid ((askR 7 n s l).1 = justB l [.ty]) := Lib.hid rfl
  have HJ := Lib.hid (fun W a2 cap2 (hk : KB F0 w0 W) (hc : codesAt W a2 [.ty]) => cjust_any a a2 l [.ty] 1 cap cap2 rfl (by intro c hc; simp only [List.mem_cons, List.not_mem_nil, or_false] at hc; subst hc <;> first | trivial | (simp [Plain]; done)) W (by omega) (by decide) hb (ha.kbF hk) hc)
  generalize justB l [.ty] = b0 at HJ Hr
  generalize (askR 7 n s l).1 = ok at Hr ⊢
  clear ha hb
  cases b0
  · go_enter Tryd.func63, Tryd.ntmps63
    go_wp2_with fail
    rw [← HB0.out]
    try rw [HB0s.out]
    refine (HJ.out _ _ _ (K.trans (by repeat (first | exact KB.refl _ _ | refine KB.alloc ?_ _))) (codes_new (W := B0) [.ty])).mono ?_
    rintro e _ ⟨rfl, rfl⟩
    go_wp2_with fail
    go_ret
    exact ⟨ret_eq (by rw [Hr.out]; rfl), K.trans (by repeat (first | exact KB.refl _ _ | refine KB.alloc ?_ _))⟩
  · go_enter Tryd.func63, Tryd.ntmps63
    go_wp2_with fail
    rw [← HB0.out]
    try rw [HB0s.out]
    refine (HJ.out _ _ _ (K.trans (by repeat (first | exact KB.refl _ _ | refine KB.alloc ?_ _))) (codes_new (W := B0) [.ty])).mono ?_
    rintro e _ ⟨rfl, rfl⟩
    go_wp2_with fail
    go_ret
    exact ⟨ret_eq (by rw [Hr.out]; rfl), K.trans (by repeat (first | exact KB.refl _ _ | refine KB.alloc ?_ _))⟩

set_option maxRecDepth 100000 in
set_option maxHeartbeats 4000000 in
theorem ch_10 (at_ n : Int) (s : ByteArray) (la : Option Addr) (ll lc : Nat) (a : Option Addr) (l : List Nat) (cap : Nat) (w : World) (_hl : l.length ≤ 16384) (hb : ∀ y ∈ l, y < 256) (ha : KindsAt w a l) :
    Calls Tryd.prog 63 #[.agg #[.int .u8 10, .int .i64 at_, .int .i64 n, .string s, .slice la ll lc], .slice a l.length cap] w fun e w' => e = .returned (.bool ((askR 10 n s l).1)) ∧ KB F0 w w' := by
  obtain ⟨w0, rfl⟩ : ∃ w0, w0 = w := ⟨_, rfl⟩
  obtain ⟨B0, hB0⟩ : ∃ B0, B0 = (w0.alloc (.cells #[.int .u8 10, .int .i64 at_, .int .i64 n, .string s, .slice la ll lc] 25)) := ⟨_, rfl⟩
  have K : KB F0 w0 B0 := by subst hB0; exact (KB.refl _ _).alloc _
  have HB0s : Hid (w0.heap.size + 1 = B0.heap.size) := Lib.hid (by subst hB0; simp)
  have HB0 := Lib.hid hB0
  clear hB0
  have Hr : Hid ((askR 10 n s l).1 = justB l [.ty]) := Lib.hid rfl
  have HJ := Lib.hid (fun W a2 cap2 (hk : KB F0 w0 W) (hc : codesAt W a2 [.ty]) => cjust_any a a2 l [.ty] 1 cap cap2 rfl (by intro c hc; simp only [List.mem_cons, List.not_mem_nil, or_false] at hc; subst hc <;> first | trivial | (simp [Plain]; done)) W (by omega) (by decide) hb (ha.kbF hk) hc)
  generalize justB l [.ty] = b0 at HJ Hr
  generalize (askR 10 n s l).1 = ok at Hr ⊢
  clear ha hb
  cases b0
  · go_enter Tryd.func63, Tryd.ntmps63
    go_wp2_with fail
    rw [← HB0.out]
    try rw [HB0s.out]
    refine (HJ.out _ _ _ (K.trans (by repeat (first | exact KB.refl _ _ | refine KB.alloc ?_ _))) (codes_new (W := B0) [.ty])).mono ?_
    rintro e _ ⟨rfl, rfl⟩
    go_wp2_with fail
    go_ret
    exact ⟨ret_eq (by rw [Hr.out]; rfl), K.trans (by repeat (first | exact KB.refl _ _ | refine KB.alloc ?_ _))⟩
  · go_enter Tryd.func63, Tryd.ntmps63
    go_wp2_with fail
    rw [← HB0.out]
    try rw [HB0s.out]
    refine (HJ.out _ _ _ (K.trans (by repeat (first | exact KB.refl _ _ | refine KB.alloc ?_ _))) (codes_new (W := B0) [.ty])).mono ?_
    rintro e _ ⟨rfl, rfl⟩
    go_wp2_with fail
    go_ret
    exact ⟨ret_eq (by rw [Hr.out]; rfl), K.trans (by repeat (first | exact KB.refl _ _ | refine KB.alloc ?_ _))⟩

set_option maxRecDepth 100000 in
set_option maxHeartbeats 4000000 in
theorem ch_11 (at_ n : Int) (s : ByteArray) (la : Option Addr) (ll lc : Nat) (a : Option Addr) (l : List Nat) (cap : Nat) (w : World) (_hl : l.length ≤ 16384) (hb : ∀ y ∈ l, y < 256) (ha : KindsAt w a l) :
    Calls Tryd.prog 63 #[.agg #[.int .u8 11, .int .i64 at_, .int .i64 n, .string s, .slice la ll lc], .slice a l.length cap] w fun e w' => e = .returned (.bool ((askR 11 n s l).1)) ∧ KB F0 w w' := by
  obtain ⟨w0, rfl⟩ : ∃ w0, w0 = w := ⟨_, rfl⟩
  obtain ⟨B0, hB0⟩ : ∃ B0, B0 = (w0.alloc (.cells #[.int .u8 11, .int .i64 at_, .int .i64 n, .string s, .slice la ll lc] 25)) := ⟨_, rfl⟩
  have K : KB F0 w0 B0 := by subst hB0; exact (KB.refl _ _).alloc _
  have HB0s : Hid (w0.heap.size + 1 = B0.heap.size) := Lib.hid (by subst hB0; simp)
  have HB0 := Lib.hid hB0
  clear hB0
  have Hr : Hid ((askR 11 n s l).1 = justB l [.ty]) := Lib.hid rfl
  have HJ := Lib.hid (fun W a2 cap2 (hk : KB F0 w0 W) (hc : codesAt W a2 [.ty]) => cjust_any a a2 l [.ty] 1 cap cap2 rfl (by intro c hc; simp only [List.mem_cons, List.not_mem_nil, or_false] at hc; subst hc <;> first | trivial | (simp [Plain]; done)) W (by omega) (by decide) hb (ha.kbF hk) hc)
  generalize justB l [.ty] = b0 at HJ Hr
  generalize (askR 11 n s l).1 = ok at Hr ⊢
  clear ha hb
  cases b0
  · go_enter Tryd.func63, Tryd.ntmps63
    go_wp2_with fail
    rw [← HB0.out]
    try rw [HB0s.out]
    refine (HJ.out _ _ _ (K.trans (by repeat (first | exact KB.refl _ _ | refine KB.alloc ?_ _))) (codes_new (W := B0) [.ty])).mono ?_
    rintro e _ ⟨rfl, rfl⟩
    go_wp2_with fail
    go_ret
    exact ⟨ret_eq (by rw [Hr.out]; rfl), K.trans (by repeat (first | exact KB.refl _ _ | refine KB.alloc ?_ _))⟩
  · go_enter Tryd.func63, Tryd.ntmps63
    go_wp2_with fail
    rw [← HB0.out]
    try rw [HB0s.out]
    refine (HJ.out _ _ _ (K.trans (by repeat (first | exact KB.refl _ _ | refine KB.alloc ?_ _))) (codes_new (W := B0) [.ty])).mono ?_
    rintro e _ ⟨rfl, rfl⟩
    go_wp2_with fail
    go_ret
    exact ⟨ret_eq (by rw [Hr.out]; rfl), K.trans (by repeat (first | exact KB.refl _ _ | refine KB.alloc ?_ _))⟩

set_option maxRecDepth 100000 in
set_option maxHeartbeats 4000000 in
theorem ch_15 (at_ n : Int) (s : ByteArray) (la : Option Addr) (ll lc : Nat) (a : Option Addr) (l : List Nat) (cap : Nat) (w : World) (_hl : l.length ≤ 16384) (hb : ∀ y ∈ l, y < 256) (ha : KindsAt w a l) :
    Calls Tryd.prog 63 #[.agg #[.int .u8 15, .int .i64 at_, .int .i64 n, .string s, .slice la ll lc], .slice a l.length cap] w fun e w' => e = .returned (.bool ((askR 15 n s l).1)) ∧ KB F0 w w' := by
  obtain ⟨w0, rfl⟩ : ∃ w0, w0 = w := ⟨_, rfl⟩
  obtain ⟨B0, hB0⟩ : ∃ B0, B0 = (w0.alloc (.cells #[.int .u8 15, .int .i64 at_, .int .i64 n, .string s, .slice la ll lc] 25)) := ⟨_, rfl⟩
  have K : KB F0 w0 B0 := by subst hB0; exact (KB.refl _ _).alloc _
  have HB0s : Hid (w0.heap.size + 1 = B0.heap.size) := Lib.hid (by subst hB0; simp)
  have HB0 := Lib.hid hB0
  clear hB0
  have Hr : Hid ((askR 15 n s l).1 = justB l [.ex, .ex]) := Lib.hid rfl
  have HJ := Lib.hid (fun W a2 cap2 (hk : KB F0 w0 W) (hc : codesAt W a2 [.ex, .ex]) => cjust_any a a2 l [.ex, .ex] 2 cap cap2 rfl (by intro c hc; simp only [List.mem_cons, List.not_mem_nil, or_false] at hc; rcases hc with rfl | rfl <;> first | trivial | (simp [Plain]; done)) W (by omega) (by decide) hb (ha.kbF hk) hc)
  generalize justB l [.ex, .ex] = b0 at HJ Hr
  generalize (askR 15 n s l).1 = ok at Hr ⊢
  clear ha hb
  cases b0
  · go_enter Tryd.func63, Tryd.ntmps63
    go_wp2_with fail
    rw [← HB0.out]
    try rw [HB0s.out]
    refine (HJ.out _ _ _ (K.trans (by repeat (first | exact KB.refl _ _ | refine KB.alloc ?_ _))) (codes_new (W := B0) [.ex, .ex])).mono ?_
    rintro e _ ⟨rfl, rfl⟩
    go_wp2_with fail
    go_ret
    exact ⟨ret_eq (by rw [Hr.out]; rfl), K.trans (by repeat (first | exact KB.refl _ _ | refine KB.alloc ?_ _))⟩
  · go_enter Tryd.func63, Tryd.ntmps63
    go_wp2_with fail
    rw [← HB0.out]
    try rw [HB0s.out]
    refine (HJ.out _ _ _ (K.trans (by repeat (first | exact KB.refl _ _ | refine KB.alloc ?_ _))) (codes_new (W := B0) [.ex, .ex])).mono ?_
    rintro e _ ⟨rfl, rfl⟩
    go_wp2_with fail
    go_ret
    exact ⟨ret_eq (by rw [Hr.out]; rfl), K.trans (by repeat (first | exact KB.refl _ _ | refine KB.alloc ?_ _))⟩

set_option maxRecDepth 100000 in
set_option maxHeartbeats 4000000 in
theorem ch_32 (at_ n : Int) (s : ByteArray) (la : Option Addr) (ll lc : Nat) (a : Option Addr) (l : List Nat) (cap : Nat) (w : World) (_hl : l.length ≤ 16384) (hb : ∀ y ∈ l, y < 256) (ha : KindsAt w a l) :
    Calls Tryd.prog 63 #[.agg #[.int .u8 32, .int .i64 at_, .int .i64 n, .string s, .slice la ll lc], .slice a l.length cap] w fun e w' => e = .returned (.bool ((askR 32 n s l).1)) ∧ KB F0 w w' := by
  obtain ⟨w0, rfl⟩ : ∃ w0, w0 = w := ⟨_, rfl⟩
  obtain ⟨B0, hB0⟩ : ∃ B0, B0 = (w0.alloc (.cells #[.int .u8 32, .int .i64 at_, .int .i64 n, .string s, .slice la ll lc] 25)) := ⟨_, rfl⟩
  have K : KB F0 w0 B0 := by subst hB0; exact (KB.refl _ _).alloc _
  have HB0s : Hid (w0.heap.size + 1 = B0.heap.size) := Lib.hid (by subst hB0; simp)
  have HB0 := Lib.hid hB0
  clear hB0
  have Hr : Hid ((askR 32 n s l).1 = justB l [.ex, .ex]) := Lib.hid rfl
  have HJ := Lib.hid (fun W a2 cap2 (hk : KB F0 w0 W) (hc : codesAt W a2 [.ex, .ex]) => cjust_any a a2 l [.ex, .ex] 2 cap cap2 rfl (by intro c hc; simp only [List.mem_cons, List.not_mem_nil, or_false] at hc; rcases hc with rfl | rfl <;> first | trivial | (simp [Plain]; done)) W (by omega) (by decide) hb (ha.kbF hk) hc)
  generalize justB l [.ex, .ex] = b0 at HJ Hr
  generalize (askR 32 n s l).1 = ok at Hr ⊢
  clear ha hb
  cases b0
  · go_enter Tryd.func63, Tryd.ntmps63
    go_wp2_with fail
    rw [← HB0.out]
    try rw [HB0s.out]
    refine (HJ.out _ _ _ (K.trans (by repeat (first | exact KB.refl _ _ | refine KB.alloc ?_ _))) (codes_new (W := B0) [.ex, .ex])).mono ?_
    rintro e _ ⟨rfl, rfl⟩
    go_wp2_with fail
    go_ret
    exact ⟨ret_eq (by rw [Hr.out]; rfl), K.trans (by repeat (first | exact KB.refl _ _ | refine KB.alloc ?_ _))⟩
  · go_enter Tryd.func63, Tryd.ntmps63
    go_wp2_with fail
    rw [← HB0.out]
    try rw [HB0s.out]
    refine (HJ.out _ _ _ (K.trans (by repeat (first | exact KB.refl _ _ | refine KB.alloc ?_ _))) (codes_new (W := B0) [.ex, .ex])).mono ?_
    rintro e _ ⟨rfl, rfl⟩
    go_wp2_with fail
    go_ret
    exact ⟨ret_eq (by rw [Hr.out]; rfl), K.trans (by repeat (first | exact KB.refl _ _ | refine KB.alloc ?_ _))⟩

set_option maxRecDepth 100000 in
set_option maxHeartbeats 4000000 in
theorem ch_17 (at_ n : Int) (s : ByteArray) (la : Option Addr) (ll lc : Nat) (a : Option Addr) (l : List Nat) (cap : Nat) (w : World) (_hl : l.length ≤ 16384) (hb : ∀ y ∈ l, y < 256) (ha : KindsAt w a l) :
    Calls Tryd.prog 63 #[.agg #[.int .u8 17, .int .i64 at_, .int .i64 n, .string s, .slice la ll lc], .slice a l.length cap] w fun e w' => e = .returned (.bool ((askR 17 n s l).1)) ∧ KB F0 w w' := by
  obtain ⟨w0, rfl⟩ : ∃ w0, w0 = w := ⟨_, rfl⟩
  obtain ⟨B0, hB0⟩ : ∃ B0, B0 = (w0.alloc (.cells #[.int .u8 17, .int .i64 at_, .int .i64 n, .string s, .slice la ll lc] 25)) := ⟨_, rfl⟩
  have K : KB F0 w0 B0 := by subst hB0; exact (KB.refl _ _).alloc _
  have HB0s : Hid (w0.heap.size + 1 = B0.heap.size) := Lib.hid (by subst hB0; simp)
  have HB0 := Lib.hid hB0
  clear hB0
  have Hr : Hid ((askR 17 n s l).1 = justB l [.ex, .kd [13]]) := Lib.hid rfl
  have HJ := Lib.hid (fun W a2 cap2 (hk : KB F0 w0 W) (hc : codesAt W a2 [.ex, .kd [13]]) => cjust_any a a2 l [.ex, .kd [13]] 2 cap cap2 rfl (by intro c hc; simp only [List.mem_cons, List.not_mem_nil, or_false] at hc; rcases hc with rfl | rfl <;> first | trivial | (simp [Plain]; done)) W (by omega) (by decide) hb (ha.kbF hk) hc)
  generalize justB l [.ex, .kd [13]] = b0 at HJ Hr
  generalize (askR 17 n s l).1 = ok at Hr ⊢
  clear ha hb
  cases b0
  · go_enter Tryd.func63, Tryd.ntmps63
    go_wp2_with fail
    rw [← HB0.out]
    try rw [HB0s.out]
    refine (ckind_any 13 (by decide) _).mono ?_
    rintro e _ ⟨rfl, rfl⟩
    go_wp2_with fail
    try rw [HB0s.out]
    refine (HJ.out _ _ _ (K.trans (by repeat (first | exact KB.refl _ _ | refine KB.alloc ?_ _))) (codes_new (W := B0) [.ex, .kd [13]])).mono ?_
    rintro e _ ⟨rfl, rfl⟩
    go_wp2_with fail
    go_ret
    exact ⟨ret_eq (by rw [Hr.out]; rfl), K.trans (by repeat (first | exact KB.refl _ _ | refine KB.alloc ?_ _))⟩
  · go_enter Tryd.func63, Tryd.ntmps63
    go_wp2_with fail
    rw [← HB0.out]
    try rw [HB0s.out]
    refine (ckind_any 13 (by decide) _).mono ?_
    rintro e _ ⟨rfl, rfl⟩
    go_wp2_with fail
    try rw [HB0s.out]
    refine (HJ.out _ _ _ (K.trans (by repeat (first | exact KB.refl _ _ | refine KB.alloc ?_ _))) (codes_new (W := B0) [.ex, .kd [13]])).mono ?_
    rintro e _ ⟨rfl, rfl⟩
    go_wp2_with fail
    go_ret
    exact ⟨ret_eq (by rw [Hr.out]; rfl), K.trans (by repeat (first | exact KB.refl _ _ | refine KB.alloc ?_ _))⟩
end Go.Proofs.YtjefoojkgocinaaDoor

namespace Go.Proofs.YtjefoojkgocinaaDoor
open Go.RowKit
set_option maxRecDepth 100000 in
set_option maxHeartbeats 4000000 in
theorem ch_18 (at_ n : Int) (s : ByteArray) (la : Option Addr) (ll lc : Nat) (a : Option Addr) (l : List Nat) (cap : Nat) (w : World) (_hl : l.length ≤ 16384) (hb : ∀ y ∈ l, y < 256) (ha : KindsAt w a l) :
    Calls Tryd.prog 63 #[.agg #[.int .u8 18, .int .i64 at_, .int .i64 n, .string s, .slice la ll lc], .slice a l.length cap] w fun e w' => e = .returned (.bool ((askR 18 n s l).1)) ∧ KB F0 w w' := by
  obtain ⟨w0, rfl⟩ : ∃ w0, w0 = w := ⟨_, rfl⟩
  obtain ⟨B0, hB0⟩ : ∃ B0, B0 = (w0.alloc (.cells #[.int .u8 18, .int .i64 at_, .int .i64 n, .string s, .slice la ll lc] 25)) := ⟨_, rfl⟩
  have K : KB F0 w0 B0 := by subst hB0; exact (KB.refl _ _).alloc _
  have HB0s : Hid (w0.heap.size + 1 = B0.heap.size) := Lib.hid (by subst hB0; simp)
  have HB0 := Lib.hid hB0
  clear hB0
  have Hr : Hid ((askR 18 n s l).1 = justB l [.kd [13]]) := Lib.hid rfl
  have HJ := Lib.hid (fun W a2 cap2 (hk : KB F0 w0 W) (hc : codesAt W a2 [.kd [13]]) => cjust_any a a2 l [.kd [13]] 1 cap cap2 rfl (by intro c hc; simp only [List.mem_cons, List.not_mem_nil, or_false] at hc; subst hc <;> first | trivial | (simp [Plain]; done)) W (by omega) (by decide) hb (ha.kbF hk) hc)
  generalize justB l [.kd [13]] = b0 at HJ Hr
  generalize (askR 18 n s l).1 = ok at Hr ⊢
  clear ha hb
  cases b0
  · go_enter Tryd.func63, Tryd.ntmps63
    go_wp2_with fail
    rw [← HB0.out]
    try rw [HB0s.out]
    refine (ckind_any 13 (by decide) _).mono ?_
    rintro e _ ⟨rfl, rfl⟩
    go_wp2_with fail
    try rw [HB0s.out]
    refine (HJ.out _ _ _ (K.trans (by repeat (first | exact KB.refl _ _ | refine KB.alloc ?_ _))) (codes_new (W := B0) [.kd [13]])).mono ?_
    rintro e _ ⟨rfl, rfl⟩
    go_wp2_with fail
    go_ret
    exact ⟨ret_eq (by rw [Hr.out]; rfl), K.trans (by repeat (first | exact KB.refl _ _ | refine KB.alloc ?_ _))⟩
  · go_enter Tryd.func63, Tryd.ntmps63
    go_wp2_with fail
    rw [← HB0.out]
    try rw [HB0s.out]
    refine (ckind_any 13 (by decide) _).mono ?_
    rintro e _ ⟨rfl, rfl⟩
    go_wp2_with fail
    try rw [HB0s.out]
    refine (HJ.out _ _ _ (K.trans (by repeat (first | exact KB.refl _ _ | refine KB.alloc ?_ _))) (codes_new (W := B0) [.kd [13]])).mono ?_
    rintro e _ ⟨rfl, rfl⟩
    go_wp2_with fail
    go_ret
    exact ⟨ret_eq (by rw [Hr.out]; rfl), K.trans (by repeat (first | exact KB.refl _ _ | refine KB.alloc ?_ _))⟩

set_option maxRecDepth 100000 in
set_option maxHeartbeats 4000000 in
theorem ch_21 (at_ n : Int) (s : ByteArray) (la : Option Addr) (ll lc : Nat) (a : Option Addr) (l : List Nat) (cap : Nat) (w : World) (_hl : l.length ≤ 16384) (hb : ∀ y ∈ l, y < 256) (ha : KindsAt w a l) :
    Calls Tryd.prog 63 #[.agg #[.int .u8 21, .int .i64 at_, .int .i64 n, .string s, .slice la ll lc], .slice a l.length cap] w fun e w' => e = .returned (.bool ((askR 21 n s l).1)) ∧ KB F0 w w' := by
  obtain ⟨w0, rfl⟩ : ∃ w0, w0 = w := ⟨_, rfl⟩
  obtain ⟨B0, hB0⟩ : ∃ B0, B0 = (w0.alloc (.cells #[.int .u8 21, .int .i64 at_, .int .i64 n, .string s, .slice la ll lc] 25)) := ⟨_, rfl⟩
  have K : KB F0 w0 B0 := by subst hB0; exact (KB.refl _ _).alloc _
  have HB0s : Hid (w0.heap.size + 1 = B0.heap.size) := Lib.hid (by subst hB0; simp)
  have HB0 := Lib.hid hB0
  clear hB0
  have Hr : Hid ((askR 21 n s l).1 = justB l [.ex]) := Lib.hid rfl
  have HJ := Lib.hid (fun W a2 cap2 (hk : KB F0 w0 W) (hc : codesAt W a2 [.ex]) => cjust_any a a2 l [.ex] 1 cap cap2 rfl (by intro c hc; simp only [List.mem_cons, List.not_mem_nil, or_false] at hc; subst hc <;> first | trivial | (simp [Plain]; done)) W (by omega) (by decide) hb (ha.kbF hk) hc)
  generalize justB l [.ex] = b0 at HJ Hr
  generalize (askR 21 n s l).1 = ok at Hr ⊢
  clear ha hb
  cases b0
  · go_enter Tryd.func63, Tryd.ntmps63
    go_wp2_with fail
    rw [← HB0.out]
    try rw [HB0s.out]
    refine (HJ.out _ _ _ (K.trans (by repeat (first | exact KB.refl _ _ | refine KB.alloc ?_ _))) (codes_new (W := B0) [.ex])).mono ?_
    rintro e _ ⟨rfl, rfl⟩
    go_wp2_with fail
    go_ret
    exact ⟨ret_eq (by rw [Hr.out]; rfl), K.trans (by repeat (first | exact KB.refl _ _ | refine KB.alloc ?_ _))⟩
  · go_enter Tryd.func63, Tryd.ntmps63
    go_wp2_with fail
    rw [← HB0.out]
    try rw [HB0s.out]
    refine (HJ.out _ _ _ (K.trans (by repeat (first | exact KB.refl _ _ | refine KB.alloc ?_ _))) (codes_new (W := B0) [.ex])).mono ?_
    rintro e _ ⟨rfl, rfl⟩
    go_wp2_with fail
    go_ret
    exact ⟨ret_eq (by rw [Hr.out]; rfl), K.trans (by repeat (first | exact KB.refl _ _ | refine KB.alloc ?_ _))⟩

set_option maxRecDepth 100000 in
set_option maxHeartbeats 4000000 in
theorem ch_22 (at_ n : Int) (s : ByteArray) (la : Option Addr) (ll lc : Nat) (a : Option Addr) (l : List Nat) (cap : Nat) (w : World) (_hl : l.length ≤ 16384) (hb : ∀ y ∈ l, y < 256) (ha : KindsAt w a l) :
    Calls Tryd.prog 63 #[.agg #[.int .u8 22, .int .i64 at_, .int .i64 n, .string s, .slice la ll lc], .slice a l.length cap] w fun e w' => e = .returned (.bool ((askR 22 n s l).1)) ∧ KB F0 w w' := by
  obtain ⟨w0, rfl⟩ : ∃ w0, w0 = w := ⟨_, rfl⟩
  obtain ⟨B0, hB0⟩ : ∃ B0, B0 = (w0.alloc (.cells #[.int .u8 22, .int .i64 at_, .int .i64 n, .string s, .slice la ll lc] 25)) := ⟨_, rfl⟩
  have K : KB F0 w0 B0 := by subst hB0; exact (KB.refl _ _).alloc _
  have HB0s : Hid (w0.heap.size + 1 = B0.heap.size) := Lib.hid (by subst hB0; simp)
  have HB0 := Lib.hid hB0
  clear hB0
  have Hr : Hid ((askR 22 n s l).1 = justB l [.ex]) := Lib.hid rfl
  have HJ := Lib.hid (fun W a2 cap2 (hk : KB F0 w0 W) (hc : codesAt W a2 [.ex]) => cjust_any a a2 l [.ex] 1 cap cap2 rfl (by intro c hc; simp only [List.mem_cons, List.not_mem_nil, or_false] at hc; subst hc <;> first | trivial | (simp [Plain]; done)) W (by omega) (by decide) hb (ha.kbF hk) hc)
  generalize justB l [.ex] = b0 at HJ Hr
  generalize (askR 22 n s l).1 = ok at Hr ⊢
  clear ha hb
  cases b0
  · go_enter Tryd.func63, Tryd.ntmps63
    go_wp2_with fail
    rw [← HB0.out]
    try rw [HB0s.out]
    refine (HJ.out _ _ _ (K.trans (by repeat (first | exact KB.refl _ _ | refine KB.alloc ?_ _))) (codes_new (W := B0) [.ex])).mono ?_
    rintro e _ ⟨rfl, rfl⟩
    go_wp2_with fail
    go_ret
    exact ⟨ret_eq (by rw [Hr.out]; rfl), K.trans (by repeat (first | exact KB.refl _ _ | refine KB.alloc ?_ _))⟩
  · go_enter Tryd.func63, Tryd.ntmps63
    go_wp2_with fail
    rw [← HB0.out]
    try rw [HB0s.out]
    refine (HJ.out _ _ _ (K.trans (by repeat (first | exact KB.refl _ _ | refine KB.alloc ?_ _))) (codes_new (W := B0) [.ex])).mono ?_
    rintro e _ ⟨rfl, rfl⟩
    go_wp2_with fail
    go_ret
    exact ⟨ret_eq (by rw [Hr.out]; rfl), K.trans (by repeat (first | exact KB.refl _ _ | refine KB.alloc ?_ _))⟩

set_option maxRecDepth 100000 in
set_option maxHeartbeats 4000000 in
theorem ch_27 (at_ n : Int) (s : ByteArray) (la : Option Addr) (ll lc : Nat) (a : Option Addr) (l : List Nat) (cap : Nat) (w : World) (_hl : l.length ≤ 16384) (hb : ∀ y ∈ l, y < 256) (ha : KindsAt w a l) :
    Calls Tryd.prog 63 #[.agg #[.int .u8 27, .int .i64 at_, .int .i64 n, .string s, .slice la ll lc], .slice a l.length cap] w fun e w' => e = .returned (.bool ((askR 27 n s l).1)) ∧ KB F0 w w' := by
  obtain ⟨w0, rfl⟩ : ∃ w0, w0 = w := ⟨_, rfl⟩
  obtain ⟨B0, hB0⟩ : ∃ B0, B0 = (w0.alloc (.cells #[.int .u8 27, .int .i64 at_, .int .i64 n, .string s, .slice la ll lc] 25)) := ⟨_, rfl⟩
  have K : KB F0 w0 B0 := by subst hB0; exact (KB.refl _ _).alloc _
  have HB0s : Hid (w0.heap.size + 1 = B0.heap.size) := Lib.hid (by subst hB0; simp)
  have HB0 := Lib.hid hB0
  clear hB0
  have Hr : Hid ((askR 27 n s l).1 = justB l [.ex]) := Lib.hid rfl
  have HJ := Lib.hid (fun W a2 cap2 (hk : KB F0 w0 W) (hc : codesAt W a2 [.ex]) => cjust_any a a2 l [.ex] 1 cap cap2 rfl (by intro c hc; simp only [List.mem_cons, List.not_mem_nil, or_false] at hc; subst hc <;> first | trivial | (simp [Plain]; done)) W (by omega) (by decide) hb (ha.kbF hk) hc)
  generalize justB l [.ex] = b0 at HJ Hr
  generalize (askR 27 n s l).1 = ok at Hr ⊢
  clear ha hb
  cases b0
  · go_enter Tryd.func63, Tryd.ntmps63
    go_wp2_with fail
    rw [← HB0.out]
    try rw [HB0s.out]
    refine (HJ.out _ _ _ (K.trans (by repeat (first | exact KB.refl _ _ | refine KB.alloc ?_ _))) (codes_new (W := B0) [.ex])).mono ?_
    rintro e _ ⟨rfl, rfl⟩
    go_wp2_with fail
    go_ret
    exact ⟨ret_eq (by rw [Hr.out]; rfl), K.trans (by repeat (first | exact KB.refl _ _ | refine KB.alloc ?_ _))⟩
  · go_enter Tryd.func63, Tryd.ntmps63
    go_wp2_with fail
    rw [← HB0.out]
    try rw [HB0s.out]
    refine (HJ.out _ _ _ (K.trans (by repeat (first | exact KB.refl _ _ | refine KB.alloc ?_ _))) (codes_new (W := B0) [.ex])).mono ?_
    rintro e _ ⟨rfl, rfl⟩
    go_wp2_with fail
    go_ret
    exact ⟨ret_eq (by rw [Hr.out]; rfl), K.trans (by repeat (first | exact KB.refl _ _ | refine KB.alloc ?_ _))⟩

set_option maxRecDepth 100000 in
set_option maxHeartbeats 4000000 in
theorem ch_28 (at_ n : Int) (s : ByteArray) (la : Option Addr) (ll lc : Nat) (a : Option Addr) (l : List Nat) (cap : Nat) (w : World) (_hl : l.length ≤ 16384) (hb : ∀ y ∈ l, y < 256) (ha : KindsAt w a l) :
    Calls Tryd.prog 63 #[.agg #[.int .u8 28, .int .i64 at_, .int .i64 n, .string s, .slice la ll lc], .slice a l.length cap] w fun e w' => e = .returned (.bool ((askR 28 n s l).1)) ∧ KB F0 w w' := by
  obtain ⟨w0, rfl⟩ : ∃ w0, w0 = w := ⟨_, rfl⟩
  obtain ⟨B0, hB0⟩ : ∃ B0, B0 = (w0.alloc (.cells #[.int .u8 28, .int .i64 at_, .int .i64 n, .string s, .slice la ll lc] 25)) := ⟨_, rfl⟩
  have K : KB F0 w0 B0 := by subst hB0; exact (KB.refl _ _).alloc _
  have HB0s : Hid (w0.heap.size + 1 = B0.heap.size) := Lib.hid (by subst hB0; simp)
  have HB0 := Lib.hid hB0
  clear hB0
  have Hr : Hid ((askR 28 n s l).1 = justB l [.ex]) := Lib.hid rfl
  have HJ := Lib.hid (fun W a2 cap2 (hk : KB F0 w0 W) (hc : codesAt W a2 [.ex]) => cjust_any a a2 l [.ex] 1 cap cap2 rfl (by intro c hc; simp only [List.mem_cons, List.not_mem_nil, or_false] at hc; subst hc <;> first | trivial | (simp [Plain]; done)) W (by omega) (by decide) hb (ha.kbF hk) hc)
  generalize justB l [.ex] = b0 at HJ Hr
  generalize (askR 28 n s l).1 = ok at Hr ⊢
  clear ha hb
  cases b0
  · go_enter Tryd.func63, Tryd.ntmps63
    go_wp2_with fail
    rw [← HB0.out]
    try rw [HB0s.out]
    refine (HJ.out _ _ _ (K.trans (by repeat (first | exact KB.refl _ _ | refine KB.alloc ?_ _))) (codes_new (W := B0) [.ex])).mono ?_
    rintro e _ ⟨rfl, rfl⟩
    go_wp2_with fail
    go_ret
    exact ⟨ret_eq (by rw [Hr.out]; rfl), K.trans (by repeat (first | exact KB.refl _ _ | refine KB.alloc ?_ _))⟩
  · go_enter Tryd.func63, Tryd.ntmps63
    go_wp2_with fail
    rw [← HB0.out]
    try rw [HB0s.out]
    refine (HJ.out _ _ _ (K.trans (by repeat (first | exact KB.refl _ _ | refine KB.alloc ?_ _))) (codes_new (W := B0) [.ex])).mono ?_
    rintro e _ ⟨rfl, rfl⟩
    go_wp2_with fail
    go_ret
    exact ⟨ret_eq (by rw [Hr.out]; rfl), K.trans (by repeat (first | exact KB.refl _ _ | refine KB.alloc ?_ _))⟩

set_option maxRecDepth 100000 in
set_option maxHeartbeats 4000000 in
theorem ch_29 (at_ n : Int) (s : ByteArray) (la : Option Addr) (ll lc : Nat) (a : Option Addr) (l : List Nat) (cap : Nat) (w : World) (_hl : l.length ≤ 16384) (hb : ∀ y ∈ l, y < 256) (ha : KindsAt w a l) :
    Calls Tryd.prog 63 #[.agg #[.int .u8 29, .int .i64 at_, .int .i64 n, .string s, .slice la ll lc], .slice a l.length cap] w fun e w' => e = .returned (.bool ((askR 29 n s l).1)) ∧ KB F0 w w' := by
  obtain ⟨w0, rfl⟩ : ∃ w0, w0 = w := ⟨_, rfl⟩
  obtain ⟨B0, hB0⟩ : ∃ B0, B0 = (w0.alloc (.cells #[.int .u8 29, .int .i64 at_, .int .i64 n, .string s, .slice la ll lc] 25)) := ⟨_, rfl⟩
  have K : KB F0 w0 B0 := by subst hB0; exact (KB.refl _ _).alloc _
  have HB0s : Hid (w0.heap.size + 1 = B0.heap.size) := Lib.hid (by subst hB0; simp)
  have HB0 := Lib.hid hB0
  clear hB0
  have Hr : Hid ((askR 29 n s l).1 = justB l [.ex]) := Lib.hid rfl
  have HJ := Lib.hid (fun W a2 cap2 (hk : KB F0 w0 W) (hc : codesAt W a2 [.ex]) => cjust_any a a2 l [.ex] 1 cap cap2 rfl (by intro c hc; simp only [List.mem_cons, List.not_mem_nil, or_false] at hc; subst hc <;> first | trivial | (simp [Plain]; done)) W (by omega) (by decide) hb (ha.kbF hk) hc)
  generalize justB l [.ex] = b0 at HJ Hr
  generalize (askR 29 n s l).1 = ok at Hr ⊢
  clear ha hb
  cases b0
  · go_enter Tryd.func63, Tryd.ntmps63
    go_wp2_with fail
    rw [← HB0.out]
    try rw [HB0s.out]
    refine (HJ.out _ _ _ (K.trans (by repeat (first | exact KB.refl _ _ | refine KB.alloc ?_ _))) (codes_new (W := B0) [.ex])).mono ?_
    rintro e _ ⟨rfl, rfl⟩
    go_wp2_with fail
    go_ret
    exact ⟨ret_eq (by rw [Hr.out]; rfl), K.trans (by repeat (first | exact KB.refl _ _ | refine KB.alloc ?_ _))⟩
  · go_enter Tryd.func63, Tryd.ntmps63
    go_wp2_with fail
    rw [← HB0.out]
    try rw [HB0s.out]
    refine (HJ.out _ _ _ (K.trans (by repeat (first | exact KB.refl _ _ | refine KB.alloc ?_ _))) (codes_new (W := B0) [.ex])).mono ?_
    rintro e _ ⟨rfl, rfl⟩
    go_wp2_with fail
    go_ret
    exact ⟨ret_eq (by rw [Hr.out]; rfl), K.trans (by repeat (first | exact KB.refl _ _ | refine KB.alloc ?_ _))⟩
end Go.Proofs.YtjefoojkgocinaaDoor

namespace Go.Proofs.YtjefoojkgocinaaDoor
open Go.RowKit
set_option maxRecDepth 100000 in
set_option maxHeartbeats 4000000 in
theorem ch_30 (at_ n : Int) (s : ByteArray) (la : Option Addr) (ll lc : Nat) (a : Option Addr) (l : List Nat) (cap : Nat) (w : World) (_hl : l.length ≤ 16384) (hb : ∀ y ∈ l, y < 256) (ha : KindsAt w a l) :
    Calls Tryd.prog 63 #[.agg #[.int .u8 30, .int .i64 at_, .int .i64 n, .string s, .slice la ll lc], .slice a l.length cap] w fun e w' => e = .returned (.bool ((askR 30 n s l).1)) ∧ KB F0 w w' := by
  obtain ⟨w0, rfl⟩ : ∃ w0, w0 = w := ⟨_, rfl⟩
  obtain ⟨B0, hB0⟩ : ∃ B0, B0 = (w0.alloc (.cells #[.int .u8 30, .int .i64 at_, .int .i64 n, .string s, .slice la ll lc] 25)) := ⟨_, rfl⟩
  have K : KB F0 w0 B0 := by subst hB0; exact (KB.refl _ _).alloc _
  have HB0s : Hid (w0.heap.size + 1 = B0.heap.size) := Lib.hid (by subst hB0; simp)
  have HB0 := Lib.hid hB0
  clear hB0
  have Hr : Hid ((askR 30 n s l).1 = justB l [.ex]) := Lib.hid rfl
  have HJ := Lib.hid (fun W a2 cap2 (hk : KB F0 w0 W) (hc : codesAt W a2 [.ex]) => cjust_any a a2 l [.ex] 1 cap cap2 rfl (by intro c hc; simp only [List.mem_cons, List.not_mem_nil, or_false] at hc; subst hc <;> first | trivial | (simp [Plain]; done)) W (by omega) (by decide) hb (ha.kbF hk) hc)
  generalize justB l [.ex] = b0 at HJ Hr
  generalize (askR 30 n s l).1 = ok at Hr ⊢
  clear ha hb
  cases b0
  · go_enter Tryd.func63, Tryd.ntmps63
    go_wp2_with fail
    rw [← HB0.out]
    try rw [HB0s.out]
    refine (HJ.out _ _ _ (K.trans (by repeat (first | exact KB.refl _ _ | refine KB.alloc ?_ _))) (codes_new (W := B0) [.ex])).mono ?_
    rintro e _ ⟨rfl, rfl⟩
    go_wp2_with fail
    go_ret
    exact ⟨ret_eq (by rw [Hr.out]; rfl), K.trans (by repeat (first | exact KB.refl _ _ | refine KB.alloc ?_ _))⟩
  · go_enter Tryd.func63, Tryd.ntmps63
    go_wp2_with fail
    rw [← HB0.out]
    try rw [HB0s.out]
    refine (HJ.out _ _ _ (K.trans (by repeat (first | exact KB.refl _ _ | refine KB.alloc ?_ _))) (codes_new (W := B0) [.ex])).mono ?_
    rintro e _ ⟨rfl, rfl⟩
    go_wp2_with fail
    go_ret
    exact ⟨ret_eq (by rw [Hr.out]; rfl), K.trans (by repeat (first | exact KB.refl _ _ | refine KB.alloc ?_ _))⟩

set_option maxRecDepth 100000 in
set_option maxHeartbeats 4000000 in
theorem ch_31 (at_ n : Int) (s : ByteArray) (la : Option Addr) (ll lc : Nat) (a : Option Addr) (l : List Nat) (cap : Nat) (w : World) (_hl : l.length ≤ 16384) (hb : ∀ y ∈ l, y < 256) (ha : KindsAt w a l) :
    Calls Tryd.prog 63 #[.agg #[.int .u8 31, .int .i64 at_, .int .i64 n, .string s, .slice la ll lc], .slice a l.length cap] w fun e w' => e = .returned (.bool ((askR 31 n s l).1)) ∧ KB F0 w w' := by
  obtain ⟨w0, rfl⟩ : ∃ w0, w0 = w := ⟨_, rfl⟩
  obtain ⟨B0, hB0⟩ : ∃ B0, B0 = (w0.alloc (.cells #[.int .u8 31, .int .i64 at_, .int .i64 n, .string s, .slice la ll lc] 25)) := ⟨_, rfl⟩
  have K : KB F0 w0 B0 := by subst hB0; exact (KB.refl _ _).alloc _
  have HB0s : Hid (w0.heap.size + 1 = B0.heap.size) := Lib.hid (by subst hB0; simp)
  have HB0 := Lib.hid hB0
  clear hB0
  have Hr : Hid ((askR 31 n s l).1 = justB l [.ex]) := Lib.hid rfl
  have HJ := Lib.hid (fun W a2 cap2 (hk : KB F0 w0 W) (hc : codesAt W a2 [.ex]) => cjust_any a a2 l [.ex] 1 cap cap2 rfl (by intro c hc; simp only [List.mem_cons, List.not_mem_nil, or_false] at hc; subst hc <;> first | trivial | (simp [Plain]; done)) W (by omega) (by decide) hb (ha.kbF hk) hc)
  generalize justB l [.ex] = b0 at HJ Hr
  generalize (askR 31 n s l).1 = ok at Hr ⊢
  clear ha hb
  cases b0
  · go_enter Tryd.func63, Tryd.ntmps63
    go_wp2_with fail
    rw [← HB0.out]
    try rw [HB0s.out]
    refine (HJ.out _ _ _ (K.trans (by repeat (first | exact KB.refl _ _ | refine KB.alloc ?_ _))) (codes_new (W := B0) [.ex])).mono ?_
    rintro e _ ⟨rfl, rfl⟩
    go_wp2_with fail
    go_ret
    exact ⟨ret_eq (by rw [Hr.out]; rfl), K.trans (by repeat (first | exact KB.refl _ _ | refine KB.alloc ?_ _))⟩
  · go_enter Tryd.func63, Tryd.ntmps63
    go_wp2_with fail
    rw [← HB0.out]
    try rw [HB0s.out]
    refine (HJ.out _ _ _ (K.trans (by repeat (first | exact KB.refl _ _ | refine KB.alloc ?_ _))) (codes_new (W := B0) [.ex])).mono ?_
    rintro e _ ⟨rfl, rfl⟩
    go_wp2_with fail
    go_ret
    exact ⟨ret_eq (by rw [Hr.out]; rfl), K.trans (by repeat (first | exact KB.refl _ _ | refine KB.alloc ?_ _))⟩

set_option maxRecDepth 100000 in
set_option maxHeartbeats 4000000 in
theorem ch_35 (at_ n : Int) (s : ByteArray) (la : Option Addr) (ll lc : Nat) (a : Option Addr) (l : List Nat) (cap : Nat) (w : World) (_hl : l.length ≤ 16384) (hb : ∀ y ∈ l, y < 256) (ha : KindsAt w a l) :
    Calls Tryd.prog 63 #[.agg #[.int .u8 35, .int .i64 at_, .int .i64 n, .string s, .slice la ll lc], .slice a l.length cap] w fun e w' => e = .returned (.bool ((askR 35 n s l).1)) ∧ KB F0 w w' := by
  obtain ⟨w0, rfl⟩ : ∃ w0, w0 = w := ⟨_, rfl⟩
  obtain ⟨B0, hB0⟩ : ∃ B0, B0 = (w0.alloc (.cells #[.int .u8 35, .int .i64 at_, .int .i64 n, .string s, .slice la ll lc] 25)) := ⟨_, rfl⟩
  have K : KB F0 w0 B0 := by subst hB0; exact (KB.refl _ _).alloc _
  have HB0s : Hid (w0.heap.size + 1 = B0.heap.size) := Lib.hid (by subst hB0; simp)
  have HB0 := Lib.hid hB0
  clear hB0
  have Hr : Hid ((askR 35 n s l).1 = justB l [.ex]) := Lib.hid rfl
  have HJ := Lib.hid (fun W a2 cap2 (hk : KB F0 w0 W) (hc : codesAt W a2 [.ex]) => cjust_any a a2 l [.ex] 1 cap cap2 rfl (by intro c hc; simp only [List.mem_cons, List.not_mem_nil, or_false] at hc; subst hc <;> first | trivial | (simp [Plain]; done)) W (by omega) (by decide) hb (ha.kbF hk) hc)
  generalize justB l [.ex] = b0 at HJ Hr
  generalize (askR 35 n s l).1 = ok at Hr ⊢
  clear ha hb
  cases b0
  · go_enter Tryd.func63, Tryd.ntmps63
    go_wp2_with fail
    rw [← HB0.out]
    try rw [HB0s.out]
    refine (HJ.out _ _ _ (K.trans (by repeat (first | exact KB.refl _ _ | refine KB.alloc ?_ _))) (codes_new (W := B0) [.ex])).mono ?_
    rintro e _ ⟨rfl, rfl⟩
    go_wp2_with fail
    go_ret
    exact ⟨ret_eq (by rw [Hr.out]; rfl), K.trans (by repeat (first | exact KB.refl _ _ | refine KB.alloc ?_ _))⟩
  · go_enter Tryd.func63, Tryd.ntmps63
    go_wp2_with fail
    rw [← HB0.out]
    try rw [HB0s.out]
    refine (HJ.out _ _ _ (K.trans (by repeat (first | exact KB.refl _ _ | refine KB.alloc ?_ _))) (codes_new (W := B0) [.ex])).mono ?_
    rintro e _ ⟨rfl, rfl⟩
    go_wp2_with fail
    go_ret
    exact ⟨ret_eq (by rw [Hr.out]; rfl), K.trans (by repeat (first | exact KB.refl _ _ | refine KB.alloc ?_ _))⟩

set_option maxRecDepth 100000 in
set_option maxHeartbeats 4000000 in
theorem ch_36 (at_ n : Int) (s : ByteArray) (la : Option Addr) (ll lc : Nat) (a : Option Addr) (l : List Nat) (cap : Nat) (w : World) (_hl : l.length ≤ 16384) (hb : ∀ y ∈ l, y < 256) (ha : KindsAt w a l) :
    Calls Tryd.prog 63 #[.agg #[.int .u8 36, .int .i64 at_, .int .i64 n, .string s, .slice la ll lc], .slice a l.length cap] w fun e w' => e = .returned (.bool ((askR 36 n s l).1)) ∧ KB F0 w w' := by
  obtain ⟨w0, rfl⟩ : ∃ w0, w0 = w := ⟨_, rfl⟩
  obtain ⟨B0, hB0⟩ : ∃ B0, B0 = (w0.alloc (.cells #[.int .u8 36, .int .i64 at_, .int .i64 n, .string s, .slice la ll lc] 25)) := ⟨_, rfl⟩
  have K : KB F0 w0 B0 := by subst hB0; exact (KB.refl _ _).alloc _
  have HB0s : Hid (w0.heap.size + 1 = B0.heap.size) := Lib.hid (by subst hB0; simp)
  have HB0 := Lib.hid hB0
  clear hB0
  have Hr : Hid ((askR 36 n s l).1 = justB l [.ex]) := Lib.hid rfl
  have HJ := Lib.hid (fun W a2 cap2 (hk : KB F0 w0 W) (hc : codesAt W a2 [.ex]) => cjust_any a a2 l [.ex] 1 cap cap2 rfl (by intro c hc; simp only [List.mem_cons, List.not_mem_nil, or_false] at hc; subst hc <;> first | trivial | (simp [Plain]; done)) W (by omega) (by decide) hb (ha.kbF hk) hc)
  generalize justB l [.ex] = b0 at HJ Hr
  generalize (askR 36 n s l).1 = ok at Hr ⊢
  clear ha hb
  cases b0
  · go_enter Tryd.func63, Tryd.ntmps63
    go_wp2_with fail
    rw [← HB0.out]
    try rw [HB0s.out]
    refine (HJ.out _ _ _ (K.trans (by repeat (first | exact KB.refl _ _ | refine KB.alloc ?_ _))) (codes_new (W := B0) [.ex])).mono ?_
    rintro e _ ⟨rfl, rfl⟩
    go_wp2_with fail
    go_ret
    exact ⟨ret_eq (by rw [Hr.out]; rfl), K.trans (by repeat (first | exact KB.refl _ _ | refine KB.alloc ?_ _))⟩
  · go_enter Tryd.func63, Tryd.ntmps63
    go_wp2_with fail
    rw [← HB0.out]
    try rw [HB0s.out]
    refine (HJ.out _ _ _ (K.trans (by repeat (first | exact KB.refl _ _ | refine KB.alloc ?_ _))) (codes_new (W := B0) [.ex])).mono ?_
    rintro e _ ⟨rfl, rfl⟩
    go_wp2_with fail
    go_ret
    exact ⟨ret_eq (by rw [Hr.out]; rfl), K.trans (by repeat (first | exact KB.refl _ _ | refine KB.alloc ?_ _))⟩

set_option maxRecDepth 100000 in
set_option maxHeartbeats 4000000 in
theorem ch_23 (at_ n : Int) (s : ByteArray) (la : Option Addr) (ll lc : Nat) (a : Option Addr) (l : List Nat) (cap : Nat) (w : World) (_hl : l.length ≤ 16384) (hb : ∀ y ∈ l, y < 256) (ha : KindsAt w a l) :
    Calls Tryd.prog 63 #[.agg #[.int .u8 23, .int .i64 at_, .int .i64 n, .string s, .slice la ll lc], .slice a l.length cap] w fun e w' => e = .returned (.bool ((askR 23 n s l).1)) ∧ KB F0 w w' := by
  obtain ⟨w0, rfl⟩ : ∃ w0, w0 = w := ⟨_, rfl⟩
  obtain ⟨B0, hB0⟩ : ∃ B0, B0 = (w0.alloc (.cells #[.int .u8 23, .int .i64 at_, .int .i64 n, .string s, .slice la ll lc] 25)) := ⟨_, rfl⟩
  have K : KB F0 w0 B0 := by subst hB0; exact (KB.refl _ _).alloc _
  have HB0s : Hid (w0.heap.size + 1 = B0.heap.size) := Lib.hid (by subst hB0; simp)
  have HB0 := Lib.hid hB0
  clear hB0
  have Hr : Hid ((askR 23 n s l).1 = justB l [.kd [33]]) := Lib.hid rfl
  have HJ := Lib.hid (fun W a2 cap2 (hk : KB F0 w0 W) (hc : codesAt W a2 [.kd [33]]) => cjust_any a a2 l [.kd [33]] 1 cap cap2 rfl (by intro c hc; simp only [List.mem_cons, List.not_mem_nil, or_false] at hc; subst hc <;> first | trivial | (simp [Plain]; done)) W (by omega) (by decide) hb (ha.kbF hk) hc)
  generalize justB l [.kd [33]] = b0 at HJ Hr
  generalize (askR 23 n s l).1 = ok at Hr ⊢
  clear ha hb
  cases b0
  · go_enter Tryd.func63, Tryd.ntmps63
    go_wp2_with fail
    rw [← HB0.out]
    try rw [HB0s.out]
    refine (ckind_any 33 (by decide) _).mono ?_
    rintro e _ ⟨rfl, rfl⟩
    go_wp2_with fail
    try rw [HB0s.out]
    refine (HJ.out _ _ _ (K.trans (by repeat (first | exact KB.refl _ _ | refine KB.alloc ?_ _))) (codes_new (W := B0) [.kd [33]])).mono ?_
    rintro e _ ⟨rfl, rfl⟩
    go_wp2_with fail
    go_ret
    exact ⟨ret_eq (by rw [Hr.out]; rfl), K.trans (by repeat (first | exact KB.refl _ _ | refine KB.alloc ?_ _))⟩
  · go_enter Tryd.func63, Tryd.ntmps63
    go_wp2_with fail
    rw [← HB0.out]
    try rw [HB0s.out]
    refine (ckind_any 33 (by decide) _).mono ?_
    rintro e _ ⟨rfl, rfl⟩
    go_wp2_with fail
    try rw [HB0s.out]
    refine (HJ.out _ _ _ (K.trans (by repeat (first | exact KB.refl _ _ | refine KB.alloc ?_ _))) (codes_new (W := B0) [.kd [33]])).mono ?_
    rintro e _ ⟨rfl, rfl⟩
    go_wp2_with fail
    go_ret
    exact ⟨ret_eq (by rw [Hr.out]; rfl), K.trans (by repeat (first | exact KB.refl _ _ | refine KB.alloc ?_ _))⟩

set_option maxRecDepth 100000 in
set_option maxHeartbeats 4000000 in
theorem ch_14a (at_ n : Int) (s : ByteArray) (la : Option Addr) (ll lc : Nat) (a : Option Addr) (l : List Nat) (cap : Nat) (w : World) (_hl : l.length ≤ 16384) (hb : ∀ y ∈ l, y < 256) (ha : KindsAt w a l) (hv : n = 1) :
    Calls Tryd.prog 63 #[.agg #[.int .u8 14, .int .i64 at_, .int .i64 n, .string s, .slice la ll lc], .slice a l.length cap] w fun e w' => e = .returned (.bool ((askR 14 n s l).1)) ∧ KB F0 w w' := by
  obtain ⟨w0, rfl⟩ : ∃ w0, w0 = w := ⟨_, rfl⟩
  obtain ⟨B0, hB0⟩ : ∃ B0, B0 = (w0.alloc (.cells #[.int .u8 14, .int .i64 at_, .int .i64 n, .string s, .slice la ll lc] 25)) := ⟨_, rfl⟩
  have K : KB F0 w0 B0 := by subst hB0; exact (KB.refl _ _).alloc _
  have HB0s : Hid (w0.heap.size + 1 = B0.heap.size) := Lib.hid (by subst hB0; simp)
  have HB0 := Lib.hid hB0
  clear hB0
  have Hr : Hid ((askR 14 n s l).1 = justB l [.ty]) := Lib.hid (by rw [hv]; rfl)
  have q1 : (n == 1) = true := by rw [hv]; rfl
  clear hv
  have HJ := Lib.hid (fun W a2 cap2 (hk : KB F0 w0 W) (hc : codesAt W a2 [.ty]) => cjust_any a a2 l [.ty] 1 cap cap2 rfl (by intro c hc; simp only [List.mem_cons, List.not_mem_nil, or_false] at hc; subst hc <;> first | trivial | (simp [Plain]; done)) W (by omega) (by decide) hb (ha.kbF hk) hc)
  generalize justB l [.ty] = b0 at HJ Hr
  generalize (askR 14 n s l).1 = ok at Hr ⊢
  clear ha hb
  cases b0
  · go_enter Tryd.func63, Tryd.ntmps63
    go_wp2_with fail
    rw [← HB0.out]
    try rw [HB0s.out]
    refine (HJ.out _ _ _ (K.trans (by repeat (first | exact KB.refl _ _ | refine KB.alloc ?_ _))) (codes_new (W := B0) [.ty])).mono ?_
    rintro e _ ⟨rfl, rfl⟩
    go_wp2_with fail
    go_ret
    exact ⟨ret_eq (by rw [Hr.out]; rfl), K.trans (by repeat (first | exact KB.refl _ _ | refine KB.alloc ?_ _))⟩
  · go_enter Tryd.func63, Tryd.ntmps63
    go_wp2_with fail
    rw [← HB0.out]
    try rw [HB0s.out]
    refine (HJ.out _ _ _ (K.trans (by repeat (first | exact KB.refl _ _ | refine KB.alloc ?_ _))) (codes_new (W := B0) [.ty])).mono ?_
    rintro e _ ⟨rfl, rfl⟩
    go_wp2_with fail
    go_ret
    exact ⟨ret_eq (by rw [Hr.out]; rfl), K.trans (by repeat (first | exact KB.refl _ _ | refine KB.alloc ?_ _))⟩

set_option maxRecDepth 100000 in
set_option maxHeartbeats 4000000 in
theorem ch_14b (at_ n : Int) (s : ByteArray) (la : Option Addr) (ll lc : Nat) (a : Option Addr) (l : List Nat) (cap : Nat) (w : World) (_hl : l.length ≤ 16384) (hb : ∀ y ∈ l, y < 256) (ha : KindsAt w a l) (hv : n = 2) :
    Calls Tryd.prog 63 #[.agg #[.int .u8 14, .int .i64 at_, .int .i64 n, .string s, .slice la ll lc], .slice a l.length cap] w fun e w' => e = .returned (.bool ((askR 14 n s l).1)) ∧ KB F0 w w' := by
  obtain ⟨w0, rfl⟩ : ∃ w0, w0 = w := ⟨_, rfl⟩
  obtain ⟨B0, hB0⟩ : ∃ B0, B0 = (w0.alloc (.cells #[.int .u8 14, .int .i64 at_, .int .i64 n, .string s, .slice la ll lc] 25)) := ⟨_, rfl⟩
  have K : KB F0 w0 B0 := by subst hB0; exact (KB.refl _ _).alloc _
  have HB0s : Hid (w0.heap.size + 1 = B0.heap.size) := Lib.hid (by subst hB0; simp)
  have HB0 := Lib.hid hB0
  clear hB0
  have Hr : Hid ((askR 14 n s l).1 = justB l [.ex]) := Lib.hid (by rw [hv]; rfl)
  have q1 : (n == 1) = false := by rw [hv]; rfl
  have q2 : (n == 2) = true := by rw [hv]; rfl
  clear hv
  have HJ := Lib.hid (fun W a2 cap2 (hk : KB F0 w0 W) (hc : codesAt W a2 [.ex]) => cjust_any a a2 l [.ex] 1 cap cap2 rfl (by intro c hc; simp only [List.mem_cons, List.not_mem_nil, or_false] at hc; subst hc <;> first | trivial | (simp [Plain]; done)) W (by omega) (by decide) hb (ha.kbF hk) hc)
  generalize justB l [.ex] = b0 at HJ Hr
  generalize (askR 14 n s l).1 = ok at Hr ⊢
  clear ha hb
  cases b0
  · go_enter Tryd.func63, Tryd.ntmps63
    go_wp2_with fail
    rw [← HB0.out]
    try rw [HB0s.out]
    refine (HJ.out _ _ _ (K.trans (by repeat (first | exact KB.refl _ _ | refine KB.alloc ?_ _))) (codes_new (W := B0) [.ex])).mono ?_
    rintro e _ ⟨rfl, rfl⟩
    go_wp2_with fail
    go_ret
    exact ⟨ret_eq (by rw [Hr.out]; rfl), K.trans (by repeat (first | exact KB.refl _ _ | refine KB.alloc ?_ _))⟩
  · go_enter Tryd.func63, Tryd.ntmps63
    go_wp2_with fail
    rw [← HB0.out]
    try rw [HB0s.out]
    refine (HJ.out _ _ _ (K.trans (by repeat (first | exact KB.refl _ _ | refine KB.alloc ?_ _))) (codes_new (W := B0) [.ex])).mono ?_
    rintro e _ ⟨rfl, rfl⟩
    go_wp2_with fail
    go_ret
    exact ⟨ret_eq (by rw [Hr.out]; rfl), K.trans (by repeat (first | exact KB.refl _ _ | refine KB.alloc ?_ _))⟩

set_option maxRecDepth 100000 in
set_option maxHeartbeats 4000000 in
theorem ch_14c (at_ n : Int) (s : ByteArray) (la : Option Addr) (ll lc : Nat) (a : Option Addr) (l : List Nat) (cap : Nat) (w : World) (_hl : l.length ≤ 16384) (hb : ∀ y ∈ l, y < 256) (ha : KindsAt w a l) (hv1 : n ≠ 1) (hv2 : n ≠ 2) :
    Calls Tryd.prog 63 #[.agg #[.int .u8 14, .int .i64 at_, .int .i64 n, .string s, .slice la ll lc], .slice a l.length cap] w fun e w' => e = .returned (.bool ((askR 14 n s l).1)) ∧ KB F0 w w' := by
  obtain ⟨w0, rfl⟩ : ∃ w0, w0 = w := ⟨_, rfl⟩
  obtain ⟨B0, hB0⟩ : ∃ B0, B0 = (w0.alloc (.cells #[.int .u8 14, .int .i64 at_, .int .i64 n, .string s, .slice la ll lc] 25)) := ⟨_, rfl⟩
  have K : KB F0 w0 B0 := by subst hB0; exact (KB.refl _ _).alloc _
  have HB0s : Hid (w0.heap.size + 1 = B0.heap.size) := Lib.hid (by subst hB0; simp)
  have HB0 := Lib.hid hB0
  clear hB0
  have Hr : Hid ((askR 14 n s l).1 = justB l [.ty, .ex]) := Lib.hid (by unfold askR; simp only [if_neg hv1, if_neg hv2])
  have q1 : (n == 1) = false := by simp [hv1]
  have q2 : (n == 2) = false := by simp [hv2]
  clear hv1 hv2
  have HJ := Lib.hid (fun W a2 cap2 (hk : KB F0 w0 W) (hc : codesAt W a2 [.ty, .ex]) => cjust_any a a2 l [.ty, .ex] 2 cap cap2 rfl (by intro c hc; simp only [List.mem_cons, List.not_mem_nil, or_false] at hc; rcases hc with rfl | rfl <;> first | trivial | (simp [Plain]; done)) W (by omega) (by decide) hb (ha.kbF hk) hc)
  generalize justB l [.ty, .ex] = b0 at HJ Hr
  generalize (askR 14 n s l).1 = ok at Hr ⊢
  clear ha hb
  cases b0
  · go_enter Tryd.func63, Tryd.ntmps63
    go_wp2_with fail
    rw [← HB0.out]
    try rw [HB0s.out]
    refine (HJ.out _ _ _ (K.trans (by repeat (first | exact KB.refl _ _ | refine KB.alloc ?_ _))) (codes_new (W := B0) [.ty, .ex])).mono ?_
    rintro e _ ⟨rfl, rfl⟩
    go_wp2_with fail
    go_ret
    exact ⟨ret_eq (by rw [Hr.out]; rfl), K.trans (by repeat (first | exact KB.refl _ _ | refine KB.alloc ?_ _))⟩
  · go_enter Tryd.func63, Tryd.ntmps63
    go_wp2_with fail
    rw [← HB0.out]
    try rw [HB0s.out]
    refine (HJ.out _ _ _ (K.trans (by repeat (first | exact KB.refl _ _ | refine KB.alloc ?_ _))) (codes_new (W := B0) [.ty, .ex])).mono ?_
    rintro e _ ⟨rfl, rfl⟩
    go_wp2_with fail
    go_ret
    exact ⟨ret_eq (by rw [Hr.out]; rfl), K.trans (by repeat (first | exact KB.refl _ _ | refine KB.alloc ?_ _))⟩

set_option maxRecDepth 100000 in
set_option maxHeartbeats 4000000 in
theorem ch_16a (at_ n : Int) (s : ByteArray) (la : Option Addr) (ll lc : Nat) (a : Option Addr) (l : List Nat) (cap : Nat) (w : World) (_hl : l.length ≤ 16384) (hb : ∀ y ∈ l, y < 256) (ha : KindsAt w a l) (hv : n = 0) :
    Calls Tryd.prog 63 #[.agg #[.int .u8 16, .int .i64 at_, .int .i64 n, .string s, .slice la ll lc], .slice a l.length cap] w fun e w' => e = .returned (.bool ((askR 16 n s l).1)) ∧ KB F0 w w' := by
  obtain ⟨w0, rfl⟩ : ∃ w0, w0 = w := ⟨_, rfl⟩
  obtain ⟨B0, hB0⟩ : ∃ B0, B0 = (w0.alloc (.cells #[.int .u8 16, .int .i64 at_, .int .i64 n, .string s, .slice la ll lc] 25)) := ⟨_, rfl⟩
  have K : KB F0 w0 B0 := by subst hB0; exact (KB.refl _ _).alloc _
  have HB0s : Hid (w0.heap.size + 1 = B0.heap.size) := Lib.hid (by subst hB0; simp)
  have HB0 := Lib.hid hB0
  clear hB0
  have Hr : Hid ((askR 16 n s l).1 = justB l [.ex, .kd [13]]) := Lib.hid (by rw [hv]; unfold askR; simp)
  have q1 : (n == 0) = true := by rw [hv]; rfl
  clear hv
  have HJ := Lib.hid (fun W a2 cap2 (hk : KB F0 w0 W) (hc : codesAt W a2 [.ex, .kd [13]]) => cjust_any a a2 l [.ex, .kd [13]] 2 cap cap2 rfl (by intro c hc; simp only [List.mem_cons, List.not_mem_nil, or_false] at hc; rcases hc with rfl | rfl <;> first | trivial | (simp [Plain]; done)) W (by omega) (by decide) hb (ha.kbF hk) hc)
  generalize justB l [.ex, .kd [13]] = b0 at HJ Hr
  generalize (askR 16 n s l).1 = ok at Hr ⊢
  clear ha hb
  cases b0
  · go_enter Tryd.func63, Tryd.ntmps63
    go_wp2_with fail
    rw [← HB0.out]
    try rw [HB0s.out]
    refine (ckind_any 13 (by decide) _).mono ?_
    rintro e _ ⟨rfl, rfl⟩
    go_wp2_with fail
    try rw [HB0s.out]
    refine (HJ.out _ _ _ (K.trans (by repeat (first | exact KB.refl _ _ | refine KB.alloc ?_ _))) (codes_new (W := B0) [.ex, .kd [13]])).mono ?_
    rintro e _ ⟨rfl, rfl⟩
    go_wp2_with fail
    go_ret
    exact ⟨ret_eq (by rw [Hr.out]; rfl), K.trans (by repeat (first | exact KB.refl _ _ | refine KB.alloc ?_ _))⟩
  · go_enter Tryd.func63, Tryd.ntmps63
    go_wp2_with fail
    rw [← HB0.out]
    try rw [HB0s.out]
    refine (ckind_any 13 (by decide) _).mono ?_
    rintro e _ ⟨rfl, rfl⟩
    go_wp2_with fail
    try rw [HB0s.out]
    refine (HJ.out _ _ _ (K.trans (by repeat (first | exact KB.refl _ _ | refine KB.alloc ?_ _))) (codes_new (W := B0) [.ex, .kd [13]])).mono ?_
    rintro e _ ⟨rfl, rfl⟩
    go_wp2_with fail
    go_ret
    exact ⟨ret_eq (by rw [Hr.out]; rfl), K.trans (by repeat (first | exact KB.refl _ _ | refine KB.alloc ?_ _))⟩

set_option maxRecDepth 100000 in
set_option maxHeartbeats 4000000 in
theorem ch_16b (at_ n : Int) (s : ByteArray) (la : Option Addr) (ll lc : Nat) (a : Option Addr) (l : List Nat) (cap : Nat) (w : World) (_hl : l.length ≤ 16384) (hb : ∀ y ∈ l, y < 256) (ha : KindsAt w a l) (hv : n = 1) :
    Calls Tryd.prog 63 #[.agg #[.int .u8 16, .int .i64 at_, .int .i64 n, .string s, .slice la ll lc], .slice a l.length cap] w fun e w' => e = .returned (.bool ((askR 16 n s l).1)) ∧ KB F0 w w' := by
  obtain ⟨w0, rfl⟩ : ∃ w0, w0 = w := ⟨_, rfl⟩
  obtain ⟨B0, hB0⟩ : ∃ B0, B0 = (w0.alloc (.cells #[.int .u8 16, .int .i64 at_, .int .i64 n, .string s, .slice la ll lc] 25)) := ⟨_, rfl⟩
  have K : KB F0 w0 B0 := by subst hB0; exact (KB.refl _ _).alloc _
  have HB0s : Hid (w0.heap.size + 1 = B0.heap.size) := Lib.hid (by subst hB0; simp)
  have HB0 := Lib.hid hB0
  clear hB0
  have Hr : Hid ((askR 16 n s l).1 = (justB l [.ex, .kd [13], .kd [13]] || justB l [.ex, .kd [13], .kd [16]])) := Lib.hid (by rw [hv]; unfold askR; simp only [just_or]; simp)
  have q1 : (n == 0) = false := by rw [hv]; rfl
  clear hv
  have HJ := Lib.hid (fun W a2 cap2 (hk : KB F0 w0 W) (hc : codesAt W a2 [.ex, .kd [13], .kd [13]]) => cjust_any a a2 l [.ex, .kd [13], .kd [13]] 3 cap cap2 rfl (by intro c hc; simp only [List.mem_cons, List.not_mem_nil, or_false] at hc; rcases hc with rfl | rfl | rfl <;> first | trivial | (simp [Plain]; done)) W (by omega) (by decide) hb (ha.kbF hk) hc)
  have HJ2 := Lib.hid (fun W a2 cap2 (hk : KB F0 w0 W) (hc : codesAt W a2 [.ex, .kd [13], .kd [16]]) => cjust_any a a2 l [.ex, .kd [13], .kd [16]] 3 cap cap2 rfl (by intro c hc; simp only [List.mem_cons, List.not_mem_nil, or_false] at hc; rcases hc with rfl | rfl | rfl <;> first | trivial | (simp [Plain]; done)) W (by omega) (by decide) hb (ha.kbF hk) hc)
  generalize justB l [.ex, .kd [13], .kd [13]] = b0 at HJ Hr
  generalize justB l [.ex, .kd [13], .kd [16]] = b1 at HJ2 Hr
  generalize (askR 16 n s l).1 = ok at Hr ⊢
  clear ha hb
  cases b0
  · cases b1
    · go_enter Tryd.func63, Tryd.ntmps63
      go_wp2_with fail
      rw [← HB0.out]
      try rw [HB0s.out]
      refine (ckind_any 13 (by decide) _).mono ?_
      rintro e _ ⟨rfl, rfl⟩
      go_wp2_with fail
      try rw [HB0s.out]
      refine (ckind_any 13 (by decide) _).mono ?_
      rintro e _ ⟨rfl, rfl⟩
      go_wp2_with fail
      try rw [HB0s.out]
      refine (HJ.out _ _ _ (K.trans (by repeat (first | exact KB.refl _ _ | refine KB.alloc ?_ _))) (codes_new (W := B0) [.ex, .kd [13], .kd [13]])).mono ?_
      rintro e _ ⟨rfl, rfl⟩
      go_wp2_with fail
      obtain ⟨B1, hB1⟩ : ∃ B1, B1 = B0.alloc (.cells #[.int .i64 (codeOf .ex), .int .i64 (codeOf (.kd [13])), .int .i64 (codeOf (.kd [13]))] 3) := ⟨_, rfl⟩
      rw [← hB1]
      have K1 : KB F0 w0 B1 := by rw [hB1]; exact K.alloc _
      have HB1s : Hid (B0.heap.size + 1 = B1.heap.size) := Lib.hid (by rw [hB1]; simp)
      have HB1t : Hid (w0.heap.size + 2 = B1.heap.size) := Lib.hid (by have := HB1s.out; have := HB0s.out; omega)
      clear hB1
      refine (ckind_any 13 (by decide) _).mono ?_
      rintro e _ ⟨rfl, rfl⟩
      go_wp2_with fail
      refine (ckind_any 16 (by decide) _).mono ?_
      rintro e _ ⟨rfl, rfl⟩
      go_wp2_with fail
      try rw [HB1s.out]
      try rw [HB1t.out]
      refine (HJ2.out _ _ _ (K1.trans (by repeat (first | exact KB.refl _ _ | refine KB.alloc ?_ _))) (codes_new (W := B1) [.ex, .kd [13], .kd [16]])).mono ?_
      rintro e _ ⟨rfl, rfl⟩
      go_wp2_with fail
      go_ret
      exact ⟨ret_eq (by rw [Hr.out]; rfl), K1.trans (by repeat (first | exact KB.refl _ _ | refine KB.alloc ?_ _))⟩
    · go_enter Tryd.func63, Tryd.ntmps63
      go_wp2_with fail
      rw [← HB0.out]
      try rw [HB0s.out]
      refine (ckind_any 13 (by decide) _).mono ?_
      rintro e _ ⟨rfl, rfl⟩
      go_wp2_with fail
      try rw [HB0s.out]
      refine (ckind_any 13 (by decide) _).mono ?_
      rintro e _ ⟨rfl, rfl⟩
      go_wp2_with fail
      try rw [HB0s.out]
      refine (HJ.out _ _ _ (K.trans (by repeat (first | exact KB.refl _ _ | refine KB.alloc ?_ _))) (codes_new (W := B0) [.ex, .kd [13], .kd [13]])).mono ?_
      rintro e _ ⟨rfl, rfl⟩
      go_wp2_with fail
      obtain ⟨B1, hB1⟩ : ∃ B1, B1 = B0.alloc (.cells #[.int .i64 (codeOf .ex), .int .i64 (codeOf (.kd [13])), .int .i64 (codeOf (.kd [13]))] 3) := ⟨_, rfl⟩
      rw [← hB1]
      have K1 : KB F0 w0 B1 := by rw [hB1]; exact K.alloc _
      have HB1s : Hid (B0.heap.size + 1 = B1.heap.size) := Lib.hid (by rw [hB1]; simp)
      have HB1t : Hid (w0.heap.size + 2 = B1.heap.size) := Lib.hid (by have := HB1s.out; have := HB0s.out; omega)
      clear hB1
      refine (ckind_any 13 (by decide) _).mono ?_
      rintro e _ ⟨rfl, rfl⟩
      go_wp2_with fail
      refine (ckind_any 16 (by decide) _).mono ?_
      rintro e _ ⟨rfl, rfl⟩
      go_wp2_with fail
      try rw [HB1s.out]
      try rw [HB1t.out]
      refine (HJ2.out _ _ _ (K1.trans (by repeat (first | exact KB.refl _ _ | refine KB.alloc ?_ _))) (codes_new (W := B1) [.ex, .kd [13], .kd [16]])).mono ?_
      rintro e _ ⟨rfl, rfl⟩
      go_wp2_with fail
      go_ret
      exact ⟨ret_eq (by rw [Hr.out]; rfl), K1.trans (by repeat (first | exact KB.refl _ _ | refine KB.alloc ?_ _))⟩
  · go_enter Tryd.func63, Tryd.ntmps63
    go_wp2_with fail
    rw [← HB0.out]
    try rw [HB0s.out]
    refine (ckind_any 13 (by decide) _).mono ?_
    rintro e _ ⟨rfl, rfl⟩
    go_wp2_with fail
    try rw [HB0s.out]
    refine (ckind_any 13 (by decide) _).mono ?_
    rintro e _ ⟨rfl, rfl⟩
    go_wp2_with fail
    try rw [HB0s.out]
    refine (HJ.out _ _ _ (K.trans (by repeat (first | exact KB.refl _ _ | refine KB.alloc ?_ _))) (codes_new (W := B0) [.ex, .kd [13], .kd [13]])).mono ?_
    rintro e _ ⟨rfl, rfl⟩
    go_wp2_with fail
    go_ret
    exact ⟨ret_eq (by rw [Hr.out]; rfl), K.trans (by repeat (first | exact KB.refl _ _ | refine KB.alloc ?_ _))⟩
end Go.Proofs.YtjefoojkgocinaaDoor

namespace Go.Proofs.YtjefoojkgocinaaDoor
open Go.RowKit
set_option maxRecDepth 100000 in
set_option maxHeartbeats 4000000 in
theorem ch_2 (at_ n : Int) (s : ByteArray) (la : Option Addr) (ll lc : Nat) (a : Option Addr) (l : List Nat) (cap : Nat) (w : World) (_hl : l.length ≤ 16384) (hb : ∀ y ∈ l, y < 256) (ha : KindsAt w a l) :
    Calls Tryd.prog 63 #[.agg #[.int .u8 2, .int .i64 at_, .int .i64 n, .string s, .slice la ll lc], .slice a l.length cap] w fun e w' => e = .returned (.bool ((askR 2 n s l).1)) ∧ KB F0 w w' := by
  obtain ⟨w0, rfl⟩ : ∃ w0, w0 = w := ⟨_, rfl⟩
  obtain ⟨B0, hB0⟩ : ∃ B0, B0 = (w0.alloc (.cells #[.int .u8 2, .int .i64 at_, .int .i64 n, .string s, .slice la ll lc] 25)) := ⟨_, rfl⟩
  have K : KB F0 w0 B0 := by subst hB0; exact (KB.refl _ _).alloc _
  have HB0s : Hid (w0.heap.size + 1 = B0.heap.size) := Lib.hid (by subst hB0; simp)
  have HB0 := Lib.hid hB0
  clear hB0
  have Hr : Hid ((askR 2 n s l).1 = (decide ((1 : Int) ≤ l.length) && decide ((l.length : Int) ≤ 8) && l.all (.kd [3] : Cls).ok)) := Lib.hid rfl
  have HA := Lib.hid (fun W (hk : KB F0 w0 W) => (show Calls Tryd.prog 73 #[.slice a l.length cap, .int .i64 0, .int .i64 l.length, .int .i64 103] W (fun e w' => e = .returned (.bool (l.all (.kd [3] : Cls).ok)) ∧ W = w') from all_full a l cap (.kd [3]) (by decide : _ < 256) W (by omega) hb (ha.kbF hk)))
  generalize l.all (.kd [3] : Cls).ok = b0 at HA Hr
  obtain ⟨b1, hb1⟩ : ∃ b, decide ((1 : Int) ≤ l.length) = b := ⟨_, rfl⟩
  obtain ⟨b2, hb2⟩ : ∃ b, decide ((l.length : Int) ≤ 8) = b := ⟨_, rfl⟩
  rw [hb1, hb2] at Hr
  generalize (askR 2 n s l).1 = ok at Hr ⊢
  clear ha hb
  cases b1
  · go_enter Tryd.func63, Tryd.ntmps63
    go_wp2_with fail
    rw [← HB0.out]
    try rw [HB0s.out]
    go_ret
    exact ⟨ret_eq (by rw [Hr.out]; rfl), K.trans (by repeat (first | exact KB.refl _ _ | refine KB.alloc ?_ _))⟩
  · cases b2
    · go_enter Tryd.func63, Tryd.ntmps63
      go_wp2_with fail
      rw [← HB0.out]
      try rw [HB0s.out]
      go_ret
      exact ⟨ret_eq (by rw [Hr.out]; rfl), K.trans (by repeat (first | exact KB.refl _ _ | refine KB.alloc ?_ _))⟩
    · cases b0
      · go_enter Tryd.func63, Tryd.ntmps63
        go_wp2_with fail
        rw [← HB0.out]
        try rw [HB0s.out]
        refine (ckind_any 3 (by decide) _).mono ?_
        rintro e _ ⟨rfl, rfl⟩
        go_wp2_with fail
        try rw [HB0s.out]
        refine (HA.out _ (K.trans (by repeat (first | exact KB.refl _ _ | refine KB.alloc ?_ _)))).mono ?_
        rintro e _ ⟨rfl, rfl⟩
        go_wp2_with fail
        go_ret
        exact ⟨ret_eq (by rw [Hr.out]; rfl), K.trans (by repeat (first | exact KB.refl _ _ | refine KB.alloc ?_ _))⟩
      · go_enter Tryd.func63, Tryd.ntmps63
        go_wp2_with fail
        rw [← HB0.out]
        try rw [HB0s.out]
        refine (ckind_any 3 (by decide) _).mono ?_
        rintro e _ ⟨rfl, rfl⟩
        go_wp2_with fail
        try rw [HB0s.out]
        refine (HA.out _ (K.trans (by repeat (first | exact KB.refl _ _ | refine KB.alloc ?_ _)))).mono ?_
        rintro e _ ⟨rfl, rfl⟩
        go_wp2_with fail
        go_ret
        exact ⟨ret_eq (by rw [Hr.out]; rfl), K.trans (by repeat (first | exact KB.refl _ _ | refine KB.alloc ?_ _))⟩

set_option maxRecDepth 100000 in
set_option maxHeartbeats 4000000 in
theorem ch_5 (at_ n : Int) (s : ByteArray) (la : Option Addr) (ll lc : Nat) (a : Option Addr) (l : List Nat) (cap : Nat) (w : World) (_hl : l.length ≤ 16384) (hb : ∀ y ∈ l, y < 256) (ha : KindsAt w a l) :
    Calls Tryd.prog 63 #[.agg #[.int .u8 5, .int .i64 at_, .int .i64 n, .string s, .slice la ll lc], .slice a l.length cap] w fun e w' => e = .returned (.bool ((askR 5 n s l).1)) ∧ KB F0 w w' := by
  obtain ⟨w0, rfl⟩ : ∃ w0, w0 = w := ⟨_, rfl⟩
  obtain ⟨B0, hB0⟩ : ∃ B0, B0 = (w0.alloc (.cells #[.int .u8 5, .int .i64 at_, .int .i64 n, .string s, .slice la ll lc] 25)) := ⟨_, rfl⟩
  have K : KB F0 w0 B0 := by subst hB0; exact (KB.refl _ _).alloc _
  have HB0s : Hid (w0.heap.size + 1 = B0.heap.size) := Lib.hid (by subst hB0; simp)
  have HB0 := Lib.hid hB0
  clear hB0
  have Hr : Hid ((askR 5 n s l).1 = (decide ((0 : Int) ≤ l.length) && decide ((l.length : Int) ≤ 8) && l.all (.kd [6] : Cls).ok)) := Lib.hid rfl
  have HA := Lib.hid (fun W (hk : KB F0 w0 W) => (show Calls Tryd.prog 73 #[.slice a l.length cap, .int .i64 0, .int .i64 l.length, .int .i64 106] W (fun e w' => e = .returned (.bool (l.all (.kd [6] : Cls).ok)) ∧ W = w') from all_full a l cap (.kd [6]) (by decide : _ < 256) W (by omega) hb (ha.kbF hk)))
  generalize l.all (.kd [6] : Cls).ok = b0 at HA Hr
  have hb1 : decide ((0 : Int) ≤ l.length) = true := by simp
  obtain ⟨b2, hb2⟩ : ∃ b, decide ((l.length : Int) ≤ 8) = b := ⟨_, rfl⟩
  rw [hb1, hb2] at Hr
  generalize (askR 5 n s l).1 = ok at Hr ⊢
  clear ha hb
  cases b2
  · go_enter Tryd.func63, Tryd.ntmps63
    go_wp2_with fail
    rw [← HB0.out]
    try rw [HB0s.out]
    go_ret
    exact ⟨ret_eq (by rw [Hr.out]; rfl), K.trans (by repeat (first | exact KB.refl _ _ | refine KB.alloc ?_ _))⟩
  · cases b0
    · go_enter Tryd.func63, Tryd.ntmps63
      go_wp2_with fail
      rw [← HB0.out]
      try rw [HB0s.out]
      refine (ckind_any 6 (by decide) _).mono ?_
      rintro e _ ⟨rfl, rfl⟩
      go_wp2_with fail
      try rw [HB0s.out]
      refine (HA.out _ (K.trans (by repeat (first | exact KB.refl _ _ | refine KB.alloc ?_ _)))).mono ?_
      rintro e _ ⟨rfl, rfl⟩
      go_wp2_with fail
      go_ret
      exact ⟨ret_eq (by rw [Hr.out]; rfl), K.trans (by repeat (first | exact KB.refl _ _ | refine KB.alloc ?_ _))⟩
    · go_enter Tryd.func63, Tryd.ntmps63
      go_wp2_with fail
      rw [← HB0.out]
      try rw [HB0s.out]
      refine (ckind_any 6 (by decide) _).mono ?_
      rintro e _ ⟨rfl, rfl⟩
      go_wp2_with fail
      try rw [HB0s.out]
      refine (HA.out _ (K.trans (by repeat (first | exact KB.refl _ _ | refine KB.alloc ?_ _)))).mono ?_
      rintro e _ ⟨rfl, rfl⟩
      go_wp2_with fail
      go_ret
      exact ⟨ret_eq (by rw [Hr.out]; rfl), K.trans (by repeat (first | exact KB.refl _ _ | refine KB.alloc ?_ _))⟩

set_option maxRecDepth 100000 in
set_option maxHeartbeats 4000000 in
theorem ch_13 (at_ n : Int) (s : ByteArray) (la : Option Addr) (ll lc : Nat) (a : Option Addr) (l : List Nat) (cap : Nat) (w : World) (_hl : l.length ≤ 16384) (hb : ∀ y ∈ l, y < 256) (ha : KindsAt w a l) :
    Calls Tryd.prog 63 #[.agg #[.int .u8 13, .int .i64 at_, .int .i64 n, .string s, .slice la ll lc], .slice a l.length cap] w fun e w' => e = .returned (.bool ((askR 13 n s l).1)) ∧ KB F0 w w' := by
  obtain ⟨w0, rfl⟩ : ∃ w0, w0 = w := ⟨_, rfl⟩
  obtain ⟨B0, hB0⟩ : ∃ B0, B0 = (w0.alloc (.cells #[.int .u8 13, .int .i64 at_, .int .i64 n, .string s, .slice la ll lc] 25)) := ⟨_, rfl⟩
  have K : KB F0 w0 B0 := by subst hB0; exact (KB.refl _ _).alloc _
  have HB0s : Hid (w0.heap.size + 1 = B0.heap.size) := Lib.hid (by subst hB0; simp)
  have HB0 := Lib.hid hB0
  clear hB0
  have Hr : Hid ((askR 13 n s l).1 = (decide ((0 : Int) ≤ l.length) && decide ((l.length : Int) ≤ 16384) && l.all (.st : Cls).ok)) := Lib.hid rfl
  have HA := Lib.hid (fun W (hk : KB F0 w0 W) => (show Calls Tryd.prog 73 #[.slice a l.length cap, .int .i64 0, .int .i64 l.length, .int .i64 3] W (fun e w' => e = .returned (.bool (l.all (.st : Cls).ok)) ∧ W = w') from all_full a l cap (.st) trivial W (by omega) hb (ha.kbF hk)))
  generalize l.all (.st : Cls).ok = b0 at HA Hr
  have hb1 : decide ((0 : Int) ≤ l.length) = true := by simp
  have hb2 : decide ((l.length : Int) ≤ 16384) = true := by simp; omega
  rw [hb1, hb2] at Hr
  generalize (askR 13 n s l).1 = ok at Hr ⊢
  clear ha hb
  cases b0
  · go_enter Tryd.func63, Tryd.ntmps63
    go_wp2_with fail
    rw [← HB0.out]
    try rw [HB0s.out]
    refine (HA.out _ (K.trans (by repeat (first | exact KB.refl _ _ | refine KB.alloc ?_ _)))).mono ?_
    rintro e _ ⟨rfl, rfl⟩
    go_wp2_with fail
    go_ret
    exact ⟨ret_eq (by rw [Hr.out]; rfl), K.trans (by repeat (first | exact KB.refl _ _ | refine KB.alloc ?_ _))⟩
  · go_enter Tryd.func63, Tryd.ntmps63
    go_wp2_with fail
    rw [← HB0.out]
    try rw [HB0s.out]
    refine (HA.out _ (K.trans (by repeat (first | exact KB.refl _ _ | refine KB.alloc ?_ _)))).mono ?_
    rintro e _ ⟨rfl, rfl⟩
    go_wp2_with fail
    go_ret
    exact ⟨ret_eq (by rw [Hr.out]; rfl), K.trans (by repeat (first | exact KB.refl _ _ | refine KB.alloc ?_ _))⟩

set_option maxRecDepth 100000 in
set_option maxHeartbeats 4000000 in
theorem ch_33 (at_ n : Int) (s : ByteArray) (la : Option Addr) (ll lc : Nat) (a : Option Addr) (l : List Nat) (cap : Nat) (w : World) (_hl : l.length ≤ 16384) (hb : ∀ y ∈ l, y < 256) (ha : KindsAt w a l) :
    Calls Tryd.prog 63 #[.agg #[.int .u8 33, .int .i64 at_, .int .i64 n, .string s, .slice la ll lc], .slice a l.length cap] w fun e w' => e = .returned (.bool ((askR 33 n s l).1)) ∧ KB F0 w w' := by
  obtain ⟨w0, rfl⟩ : ∃ w0, w0 = w := ⟨_, rfl⟩
  obtain ⟨B0, hB0⟩ : ∃ B0, B0 = (w0.alloc (.cells #[.int .u8 33, .int .i64 at_, .int .i64 n, .string s, .slice la ll lc] 25)) := ⟨_, rfl⟩
  have K : KB F0 w0 B0 := by subst hB0; exact (KB.refl _ _).alloc _
  have HB0s : Hid (w0.heap.size + 1 = B0.heap.size) := Lib.hid (by subst hB0; simp)
  have HB0 := Lib.hid hB0
  clear hB0
  have Hr : Hid ((askR 33 n s l).1 = (decide ((0 : Int) ≤ l.length) && decide ((l.length : Int) ≤ 8) && l.all (.ex : Cls).ok)) := Lib.hid rfl
  have HA := Lib.hid (fun W (hk : KB F0 w0 W) => (show Calls Tryd.prog 73 #[.slice a l.length cap, .int .i64 0, .int .i64 l.length, .int .i64 2] W (fun e w' => e = .returned (.bool (l.all (.ex : Cls).ok)) ∧ W = w') from all_full a l cap (.ex) trivial W (by omega) hb (ha.kbF hk)))
  generalize l.all (.ex : Cls).ok = b0 at HA Hr
  have hb1 : decide ((0 : Int) ≤ l.length) = true := by simp
  obtain ⟨b2, hb2⟩ : ∃ b, decide ((l.length : Int) ≤ 8) = b := ⟨_, rfl⟩
  rw [hb1, hb2] at Hr
  generalize (askR 33 n s l).1 = ok at Hr ⊢
  clear ha hb
  cases b2
  · go_enter Tryd.func63, Tryd.ntmps63
    go_wp2_with fail
    rw [← HB0.out]
    try rw [HB0s.out]
    go_ret
    exact ⟨ret_eq (by rw [Hr.out]; rfl), K.trans (by repeat (first | exact KB.refl _ _ | refine KB.alloc ?_ _))⟩
  · cases b0
    · go_enter Tryd.func63, Tryd.ntmps63
      go_wp2_with fail
      rw [← HB0.out]
      try rw [HB0s.out]
      refine (HA.out _ (K.trans (by repeat (first | exact KB.refl _ _ | refine KB.alloc ?_ _)))).mono ?_
      rintro e _ ⟨rfl, rfl⟩
      go_wp2_with fail
      go_ret
      exact ⟨ret_eq (by rw [Hr.out]; rfl), K.trans (by repeat (first | exact KB.refl _ _ | refine KB.alloc ?_ _))⟩
    · go_enter Tryd.func63, Tryd.ntmps63
      go_wp2_with fail
      rw [← HB0.out]
      try rw [HB0s.out]
      refine (HA.out _ (K.trans (by repeat (first | exact KB.refl _ _ | refine KB.alloc ?_ _)))).mono ?_
      rintro e _ ⟨rfl, rfl⟩
      go_wp2_with fail
      go_ret
      exact ⟨ret_eq (by rw [Hr.out]; rfl), K.trans (by repeat (first | exact KB.refl _ _ | refine KB.alloc ?_ _))⟩

set_option maxRecDepth 100000 in
set_option maxHeartbeats 4000000 in
theorem ch_34 (at_ n : Int) (s : ByteArray) (la : Option Addr) (ll lc : Nat) (a : Option Addr) (l : List Nat) (cap : Nat) (w : World) (_hl : l.length ≤ 16384) (hb : ∀ y ∈ l, y < 256) (ha : KindsAt w a l) :
    Calls Tryd.prog 63 #[.agg #[.int .u8 34, .int .i64 at_, .int .i64 n, .string s, .slice la ll lc], .slice a l.length cap] w fun e w' => e = .returned (.bool ((askR 34 n s l).1)) ∧ KB F0 w w' := by
  obtain ⟨w0, rfl⟩ : ∃ w0, w0 = w := ⟨_, rfl⟩
  obtain ⟨B0, hB0⟩ : ∃ B0, B0 = (w0.alloc (.cells #[.int .u8 34, .int .i64 at_, .int .i64 n, .string s, .slice la ll lc] 25)) := ⟨_, rfl⟩
  have K : KB F0 w0 B0 := by subst hB0; exact (KB.refl _ _).alloc _
  have HB0s : Hid (w0.heap.size + 1 = B0.heap.size) := Lib.hid (by subst hB0; simp)
  have HB0 := Lib.hid hB0
  clear hB0
  have Hr : Hid ((askR 34 n s l).1 = (decide ((1 : Int) ≤ l.length) && decide ((l.length : Int) ≤ 8) && l.all (.kd [35] : Cls).ok)) := Lib.hid rfl
  have HA := Lib.hid (fun W (hk : KB F0 w0 W) => (show Calls Tryd.prog 73 #[.slice a l.length cap, .int .i64 0, .int .i64 l.length, .int .i64 135] W (fun e w' => e = .returned (.bool (l.all (.kd [35] : Cls).ok)) ∧ W = w') from all_full a l cap (.kd [35]) (by decide : _ < 256) W (by omega) hb (ha.kbF hk)))
  generalize l.all (.kd [35] : Cls).ok = b0 at HA Hr
  obtain ⟨b1, hb1⟩ : ∃ b, decide ((1 : Int) ≤ l.length) = b := ⟨_, rfl⟩
  obtain ⟨b2, hb2⟩ : ∃ b, decide ((l.length : Int) ≤ 8) = b := ⟨_, rfl⟩
  rw [hb1, hb2] at Hr
  generalize (askR 34 n s l).1 = ok at Hr ⊢
  clear ha hb
  cases b1
  · go_enter Tryd.func63, Tryd.ntmps63
    go_wp2_with fail
    rw [← HB0.out]
    try rw [HB0s.out]
    go_ret
    exact ⟨ret_eq (by rw [Hr.out]; rfl), K.trans (by repeat (first | exact KB.refl _ _ | refine KB.alloc ?_ _))⟩
  · cases b2
    · go_enter Tryd.func63, Tryd.ntmps63
      go_wp2_with fail
      rw [← HB0.out]
      try rw [HB0s.out]
      go_ret
      exact ⟨ret_eq (by rw [Hr.out]; rfl), K.trans (by repeat (first | exact KB.refl _ _ | refine KB.alloc ?_ _))⟩
    · cases b0
      · go_enter Tryd.func63, Tryd.ntmps63
        go_wp2_with fail
        rw [← HB0.out]
        try rw [HB0s.out]
        refine (ckind_any 35 (by decide) _).mono ?_
        rintro e _ ⟨rfl, rfl⟩
        go_wp2_with fail
        try rw [HB0s.out]
        refine (HA.out _ (K.trans (by repeat (first | exact KB.refl _ _ | refine KB.alloc ?_ _)))).mono ?_
        rintro e _ ⟨rfl, rfl⟩
        go_wp2_with fail
        go_ret
        exact ⟨ret_eq (by rw [Hr.out]; rfl), K.trans (by repeat (first | exact KB.refl _ _ | refine KB.alloc ?_ _))⟩
      · go_enter Tryd.func63, Tryd.ntmps63
        go_wp2_with fail
        rw [← HB0.out]
        try rw [HB0s.out]
        refine (ckind_any 35 (by decide) _).mono ?_
        rintro e _ ⟨rfl, rfl⟩
        go_wp2_with fail
        try rw [HB0s.out]
        refine (HA.out _ (K.trans (by repeat (first | exact KB.refl _ _ | refine KB.alloc ?_ _)))).mono ?_
        rintro e _ ⟨rfl, rfl⟩
        go_wp2_with fail
        go_ret
        exact ⟨ret_eq (by rw [Hr.out]; rfl), K.trans (by repeat (first | exact KB.refl _ _ | refine KB.alloc ?_ _))⟩
end Go.Proofs.YtjefoojkgocinaaDoor

namespace Go.Proofs.YtjefoojkgocinaaDoor
open Go.RowKit
set_option maxRecDepth 100000 in
set_option maxHeartbeats 4000000 in
theorem ch_0 (at_ n : Int) (s : ByteArray) (la : Option Addr) (ll lc : Nat) (a : Option Addr) (l : List Nat) (cap : Nat) (w : World) (_hl : l.length ≤ 16384) (_hb : ∀ y ∈ l, y < 256) (_ha : KindsAt w a l) :
    Calls Tryd.prog 63 #[.agg #[.int .u8 0, .int .i64 at_, .int .i64 n, .string s, .slice la ll lc], .slice a l.length cap] w fun e w' => e = .returned (.bool (len0B l)) ∧ KB F0 w w' := by
  obtain ⟨w0, rfl⟩ : ∃ w0, w0 = w := ⟨_, rfl⟩
  obtain ⟨B0, hB0⟩ : ∃ B0, B0 = (w0.alloc (.cells #[.int .u8 0, .int .i64 at_, .int .i64 n, .string s, .slice la ll lc] 25)) := ⟨_, rfl⟩
  have K : KB F0 w0 B0 := by subst hB0; exact (KB.refl _ _).alloc _
  have HB0s : Hid (w0.heap.size + 1 = B0.heap.size) := Lib.hid (by subst hB0; simp)
  have HB0 := Lib.hid hB0
  clear hB0
  have t0 : ((l.length : Int) == 0) = len0B l := deq1 rfl
  have Hr : Hid (len0B l = len0B l) := Lib.hid rfl
  generalize len0B l = b0 at t0 Hr ⊢
  clear _ha _hb
  go_enter Tryd.func63, Tryd.ntmps63
  go_wp2_with fail
  rw [← HB0.out]
  go_ret
  exact ⟨rfl, K⟩

set_option maxRecDepth 100000 in
set_option maxHeartbeats 4000000 in
theorem ch_6 (at_ n : Int) (s : ByteArray) (la : Option Addr) (ll lc : Nat) (a : Option Addr) (l : List Nat) (cap : Nat) (w : World) (_hl : l.length ≤ 16384) (_hb : ∀ y ∈ l, y < 256) (_ha : KindsAt w a l) :
    Calls Tryd.prog 63 #[.agg #[.int .u8 6, .int .i64 at_, .int .i64 n, .string s, .slice la ll lc], .slice a l.length cap] w fun e w' => e = .returned (.bool (len0B l)) ∧ KB F0 w w' := by
  obtain ⟨w0, rfl⟩ : ∃ w0, w0 = w := ⟨_, rfl⟩
  obtain ⟨B0, hB0⟩ : ∃ B0, B0 = (w0.alloc (.cells #[.int .u8 6, .int .i64 at_, .int .i64 n, .string s, .slice la ll lc] 25)) := ⟨_, rfl⟩
  have K : KB F0 w0 B0 := by subst hB0; exact (KB.refl _ _).alloc _
  have HB0s : Hid (w0.heap.size + 1 = B0.heap.size) := Lib.hid (by subst hB0; simp)
  have HB0 := Lib.hid hB0
  clear hB0
  have t0 : ((l.length : Int) == 0) = len0B l := deq1 rfl
  have Hr : Hid (len0B l = len0B l) := Lib.hid rfl
  generalize len0B l = b0 at t0 Hr ⊢
  clear _ha _hb
  go_enter Tryd.func63, Tryd.ntmps63
  go_wp2_with fail
  rw [← HB0.out]
  go_ret
  exact ⟨rfl, K⟩

set_option maxRecDepth 100000 in
set_option maxHeartbeats 4000000 in
theorem ch_8 (at_ n : Int) (s : ByteArray) (la : Option Addr) (ll lc : Nat) (a : Option Addr) (l : List Nat) (cap : Nat) (w : World) (_hl : l.length ≤ 16384) (_hb : ∀ y ∈ l, y < 256) (_ha : KindsAt w a l) :
    Calls Tryd.prog 63 #[.agg #[.int .u8 8, .int .i64 at_, .int .i64 n, .string s, .slice la ll lc], .slice a l.length cap] w fun e w' => e = .returned (.bool (len0B l)) ∧ KB F0 w w' := by
  obtain ⟨w0, rfl⟩ : ∃ w0, w0 = w := ⟨_, rfl⟩
  obtain ⟨B0, hB0⟩ : ∃ B0, B0 = (w0.alloc (.cells #[.int .u8 8, .int .i64 at_, .int .i64 n, .string s, .slice la ll lc] 25)) := ⟨_, rfl⟩
  have K : KB F0 w0 B0 := by subst hB0; exact (KB.refl _ _).alloc _
  have HB0s : Hid (w0.heap.size + 1 = B0.heap.size) := Lib.hid (by subst hB0; simp)
  have HB0 := Lib.hid hB0
  clear hB0
  have t0 : ((l.length : Int) == 0) = len0B l := deq1 rfl
  have Hr : Hid (len0B l = len0B l) := Lib.hid rfl
  generalize len0B l = b0 at t0 Hr ⊢
  clear _ha _hb
  go_enter Tryd.func63, Tryd.ntmps63
  go_wp2_with fail
  rw [← HB0.out]
  go_ret
  exact ⟨rfl, K⟩

set_option maxRecDepth 100000 in
set_option maxHeartbeats 4000000 in
theorem ch_9 (at_ n : Int) (s : ByteArray) (la : Option Addr) (ll lc : Nat) (a : Option Addr) (l : List Nat) (cap : Nat) (w : World) (_hl : l.length ≤ 16384) (_hb : ∀ y ∈ l, y < 256) (_ha : KindsAt w a l) :
    Calls Tryd.prog 63 #[.agg #[.int .u8 9, .int .i64 at_, .int .i64 n, .string s, .slice la ll lc], .slice a l.length cap] w fun e w' => e = .returned (.bool (len0B l)) ∧ KB F0 w w' := by
  obtain ⟨w0, rfl⟩ : ∃ w0, w0 = w := ⟨_, rfl⟩
  obtain ⟨B0, hB0⟩ : ∃ B0, B0 = (w0.alloc (.cells #[.int .u8 9, .int .i64 at_, .int .i64 n, .string s, .slice la ll lc] 25)) := ⟨_, rfl⟩
  have K : KB F0 w0 B0 := by subst hB0; exact (KB.refl _ _).alloc _
  have HB0s : Hid (w0.heap.size + 1 = B0.heap.size) := Lib.hid (by subst hB0; simp)
  have HB0 := Lib.hid hB0
  clear hB0
  have t0 : ((l.length : Int) == 0) = len0B l := deq1 rfl
  have Hr : Hid (len0B l = len0B l) := Lib.hid rfl
  generalize len0B l = b0 at t0 Hr ⊢
  clear _ha _hb
  go_enter Tryd.func63, Tryd.ntmps63
  go_wp2_with fail
  rw [← HB0.out]
  go_ret
  exact ⟨rfl, K⟩

set_option maxRecDepth 100000 in
set_option maxHeartbeats 4000000 in
theorem ch_12 (at_ n : Int) (s : ByteArray) (la : Option Addr) (ll lc : Nat) (a : Option Addr) (l : List Nat) (cap : Nat) (w : World) (_hl : l.length ≤ 16384) (_hb : ∀ y ∈ l, y < 256) (_ha : KindsAt w a l) :
    Calls Tryd.prog 63 #[.agg #[.int .u8 12, .int .i64 at_, .int .i64 n, .string s, .slice la ll lc], .slice a l.length cap] w fun e w' => e = .returned (.bool (len0B l)) ∧ KB F0 w w' := by
  obtain ⟨w0, rfl⟩ : ∃ w0, w0 = w := ⟨_, rfl⟩
  obtain ⟨B0, hB0⟩ : ∃ B0, B0 = (w0.alloc (.cells #[.int .u8 12, .int .i64 at_, .int .i64 n, .string s, .slice la ll lc] 25)) := ⟨_, rfl⟩
  have K : KB F0 w0 B0 := by subst hB0; exact (KB.refl _ _).alloc _
  have HB0s : Hid (w0.heap.size + 1 = B0.heap.size) := Lib.hid (by subst hB0; simp)
  have HB0 := Lib.hid hB0
  clear hB0
  have t0 : ((l.length : Int) == 0) = len0B l := deq1 rfl
  have Hr : Hid (len0B l = len0B l) := Lib.hid rfl
  generalize len0B l = b0 at t0 Hr ⊢
  clear _ha _hb
  go_enter Tryd.func63, Tryd.ntmps63
  go_wp2_with fail
  rw [← HB0.out]
  go_ret
  exact ⟨rfl, K⟩

set_option maxRecDepth 100000 in
set_option maxHeartbeats 4000000 in
theorem ch_19 (at_ n : Int) (s : ByteArray) (la : Option Addr) (ll lc : Nat) (a : Option Addr) (l : List Nat) (cap : Nat) (w : World) (_hl : l.length ≤ 16384) (_hb : ∀ y ∈ l, y < 256) (_ha : KindsAt w a l) :
    Calls Tryd.prog 63 #[.agg #[.int .u8 19, .int .i64 at_, .int .i64 n, .string s, .slice la ll lc], .slice a l.length cap] w fun e w' => e = .returned (.bool (len0B l)) ∧ KB F0 w w' := by
  obtain ⟨w0, rfl⟩ : ∃ w0, w0 = w := ⟨_, rfl⟩
  obtain ⟨B0, hB0⟩ : ∃ B0, B0 = (w0.alloc (.cells #[.int .u8 19, .int .i64 at_, .int .i64 n, .string s, .slice la ll lc] 25)) := ⟨_, rfl⟩
  have K : KB F0 w0 B0 := by subst hB0; exact (KB.refl _ _).alloc _
  have HB0s : Hid (w0.heap.size + 1 = B0.heap.size) := Lib.hid (by subst hB0; simp)
  have HB0 := Lib.hid hB0
  clear hB0
  have t0 : ((l.length : Int) == 0) = len0B l := deq1 rfl
  have Hr : Hid (len0B l = len0B l) := Lib.hid rfl
  generalize len0B l = b0 at t0 Hr ⊢
  clear _ha _hb
  go_enter Tryd.func63, Tryd.ntmps63
  go_wp2_with fail
  rw [← HB0.out]
  go_ret
  exact ⟨rfl, K⟩

set_option maxRecDepth 100000 in
set_option maxHeartbeats 4000000 in
theorem ch_20 (at_ n : Int) (s : ByteArray) (la : Option Addr) (ll lc : Nat) (a : Option Addr) (l : List Nat) (cap : Nat) (w : World) (_hl : l.length ≤ 16384) (_hb : ∀ y ∈ l, y < 256) (_ha : KindsAt w a l) :
    Calls Tryd.prog 63 #[.agg #[.int .u8 20, .int .i64 at_, .int .i64 n, .string s, .slice la ll lc], .slice a l.length cap] w fun e w' => e = .returned (.bool (len0B l)) ∧ KB F0 w w' := by
  obtain ⟨w0, rfl⟩ : ∃ w0, w0 = w := ⟨_, rfl⟩
  obtain ⟨B0, hB0⟩ : ∃ B0, B0 = (w0.alloc (.cells #[.int .u8 20, .int .i64 at_, .int .i64 n, .string s, .slice la ll lc] 25)) := ⟨_, rfl⟩
  have K : KB F0 w0 B0 := by subst hB0; exact (KB.refl _ _).alloc _
  have HB0s : Hid (w0.heap.size + 1 = B0.heap.size) := Lib.hid (by subst hB0; simp)
  have HB0 := Lib.hid hB0
  clear hB0
  have t0 : ((l.length : Int) == 0) = len0B l := deq1 rfl
  have Hr : Hid (len0B l = len0B l) := Lib.hid rfl
  generalize len0B l = b0 at t0 Hr ⊢
  clear _ha _hb
  go_enter Tryd.func63, Tryd.ntmps63
  go_wp2_with fail
  rw [← HB0.out]
  go_ret
  exact ⟨rfl, K⟩

set_option maxRecDepth 100000 in
set_option maxHeartbeats 4000000 in
theorem ch_24 (at_ n : Int) (s : ByteArray) (la : Option Addr) (ll lc : Nat) (a : Option Addr) (l : List Nat) (cap : Nat) (w : World) (_hl : l.length ≤ 16384) (_hb : ∀ y ∈ l, y < 256) (_ha : KindsAt w a l) :
    Calls Tryd.prog 63 #[.agg #[.int .u8 24, .int .i64 at_, .int .i64 n, .string s, .slice la ll lc], .slice a l.length cap] w fun e w' => e = .returned (.bool (len0B l)) ∧ KB F0 w w' := by
  obtain ⟨w0, rfl⟩ : ∃ w0, w0 = w := ⟨_, rfl⟩
  obtain ⟨B0, hB0⟩ : ∃ B0, B0 = (w0.alloc (.cells #[.int .u8 24, .int .i64 at_, .int .i64 n, .string s, .slice la ll lc] 25)) := ⟨_, rfl⟩
  have K : KB F0 w0 B0 := by subst hB0; exact (KB.refl _ _).alloc _
  have HB0s : Hid (w0.heap.size + 1 = B0.heap.size) := Lib.hid (by subst hB0; simp)
  have HB0 := Lib.hid hB0
  clear hB0
  have t0 : ((l.length : Int) == 0) = len0B l := deq1 rfl
  have Hr : Hid (len0B l = len0B l) := Lib.hid rfl
  generalize len0B l = b0 at t0 Hr ⊢
  clear _ha _hb
  go_enter Tryd.func63, Tryd.ntmps63
  go_wp2_with fail
  rw [← HB0.out]
  go_ret
  exact ⟨rfl, K⟩

set_option maxRecDepth 100000 in
set_option maxHeartbeats 4000000 in
theorem ch_25 (at_ n : Int) (s : ByteArray) (la : Option Addr) (ll lc : Nat) (a : Option Addr) (l : List Nat) (cap : Nat) (w : World) (_hl : l.length ≤ 16384) (_hb : ∀ y ∈ l, y < 256) (_ha : KindsAt w a l) :
    Calls Tryd.prog 63 #[.agg #[.int .u8 25, .int .i64 at_, .int .i64 n, .string s, .slice la ll lc], .slice a l.length cap] w fun e w' => e = .returned (.bool (len0B l)) ∧ KB F0 w w' := by
  obtain ⟨w0, rfl⟩ : ∃ w0, w0 = w := ⟨_, rfl⟩
  obtain ⟨B0, hB0⟩ : ∃ B0, B0 = (w0.alloc (.cells #[.int .u8 25, .int .i64 at_, .int .i64 n, .string s, .slice la ll lc] 25)) := ⟨_, rfl⟩
  have K : KB F0 w0 B0 := by subst hB0; exact (KB.refl _ _).alloc _
  have HB0s : Hid (w0.heap.size + 1 = B0.heap.size) := Lib.hid (by subst hB0; simp)
  have HB0 := Lib.hid hB0
  clear hB0
  have t0 : ((l.length : Int) == 0) = len0B l := deq1 rfl
  have Hr : Hid (len0B l = len0B l) := Lib.hid rfl
  generalize len0B l = b0 at t0 Hr ⊢
  clear _ha _hb
  go_enter Tryd.func63, Tryd.ntmps63
  go_wp2_with fail
  rw [← HB0.out]
  go_ret
  exact ⟨rfl, K⟩

set_option maxRecDepth 100000 in
set_option maxHeartbeats 4000000 in
theorem ch_26 (at_ n : Int) (s : ByteArray) (la : Option Addr) (ll lc : Nat) (a : Option Addr) (l : List Nat) (cap : Nat) (w : World) (_hl : l.length ≤ 16384) (_hb : ∀ y ∈ l, y < 256) (_ha : KindsAt w a l) :
    Calls Tryd.prog 63 #[.agg #[.int .u8 26, .int .i64 at_, .int .i64 n, .string s, .slice la ll lc], .slice a l.length cap] w fun e w' => e = .returned (.bool (len0B l)) ∧ KB F0 w w' := by
  obtain ⟨w0, rfl⟩ : ∃ w0, w0 = w := ⟨_, rfl⟩
  obtain ⟨B0, hB0⟩ : ∃ B0, B0 = (w0.alloc (.cells #[.int .u8 26, .int .i64 at_, .int .i64 n, .string s, .slice la ll lc] 25)) := ⟨_, rfl⟩
  have K : KB F0 w0 B0 := by subst hB0; exact (KB.refl _ _).alloc _
  have HB0s : Hid (w0.heap.size + 1 = B0.heap.size) := Lib.hid (by subst hB0; simp)
  have HB0 := Lib.hid hB0
  clear hB0
  have t0 : ((l.length : Int) == 0) = len0B l := deq1 rfl
  have Hr : Hid (len0B l = len0B l) := Lib.hid rfl
  generalize len0B l = b0 at t0 Hr ⊢
  clear _ha _hb
  go_enter Tryd.func63, Tryd.ntmps63
  go_wp2_with fail
  rw [← HB0.out]
  go_ret
  exact ⟨rfl, K⟩

set_option maxRecDepth 100000 in
set_option maxHeartbeats 4000000 in
theorem ch_37 (at_ n : Int) (s : ByteArray) (la : Option Addr) (ll lc : Nat) (a : Option Addr) (l : List Nat) (cap : Nat) (w : World) (_hl : l.length ≤ 16384) (_hb : ∀ y ∈ l, y < 256) (_ha : KindsAt w a l) :
    Calls Tryd.prog 63 #[.agg #[.int .u8 37, .int .i64 at_, .int .i64 n, .string s, .slice la ll lc], .slice a l.length cap] w fun e w' => e = .returned (.bool (len0B l)) ∧ KB F0 w w' := by
  obtain ⟨w0, rfl⟩ : ∃ w0, w0 = w := ⟨_, rfl⟩
  obtain ⟨B0, hB0⟩ : ∃ B0, B0 = (w0.alloc (.cells #[.int .u8 37, .int .i64 at_, .int .i64 n, .string s, .slice la ll lc] 25)) := ⟨_, rfl⟩
  have K : KB F0 w0 B0 := by subst hB0; exact (KB.refl _ _).alloc _
  have HB0s : Hid (w0.heap.size + 1 = B0.heap.size) := Lib.hid (by subst hB0; simp)
  have HB0 := Lib.hid hB0
  clear hB0
  have t0 : ((l.length : Int) == 0) = len0B l := deq1 rfl
  have Hr : Hid (len0B l = len0B l) := Lib.hid rfl
  generalize len0B l = b0 at t0 Hr ⊢
  clear _ha _hb
  go_enter Tryd.func63, Tryd.ntmps63
  go_wp2_with fail
  rw [← HB0.out]
  go_ret
  exact ⟨rfl, K⟩

set_option maxRecDepth 100000 in
set_option maxHeartbeats 4000000 in
theorem ch_38 (k : Nat) (_hk : 38 ≤ k) (at_ n : Int) (s : ByteArray) (la : Option Addr) (ll lc : Nat) (a : Option Addr) (l : List Nat) (cap : Nat) (w : World) (_hl : l.length ≤ 16384) (_hb : ∀ y ∈ l, y < 256) (_ha : KindsAt w a l) :
    Calls Tryd.prog 63 #[.agg #[.int .u8 k, .int .i64 at_, .int .i64 n, .string s, .slice la ll lc], .slice a l.length cap] w fun e w' => e = .returned (.bool (len0B l)) ∧ KB F0 w w' := by
  obtain ⟨w0, rfl⟩ : ∃ w0, w0 = w := ⟨_, rfl⟩
  obtain ⟨B0, hB0⟩ : ∃ B0, B0 = (w0.alloc (.cells #[.int .u8 k, .int .i64 at_, .int .i64 n, .string s, .slice la ll lc] 25)) := ⟨_, rfl⟩
  have K : KB F0 w0 B0 := by subst hB0; exact (KB.refl _ _).alloc _
  have HB0s : Hid (w0.heap.size + 1 = B0.heap.size) := Lib.hid (by subst hB0; simp)
  have HB0 := Lib.hid hB0
  clear hB0
  have u0 : ((k : Int) == 1) = false := by simp; omega
  have u1 : ((k : Int) == 2) = false := by simp; omega
  have u2 : ((k : Int) == 3) = false := by simp; omega
  have u3 : ((k : Int) == 7) = false := by simp; omega
  have u4 : ((k : Int) == 10) = false := by simp; omega
  have u5 : ((k : Int) == 11) = false := by simp; omega
  have u6 : ((k : Int) == 4) = false := by simp; omega
  have u7 : ((k : Int) == 5) = false := by simp; omega
  have u8 : ((k : Int) == 13) = false := by simp; omega
  have u9 : ((k : Int) == 14) = false := by simp; omega
  have u10 : ((k : Int) == 15) = false := by simp; omega
  have u11 : ((k : Int) == 32) = false := by simp; omega
  have u12 : ((k : Int) == 16) = false := by simp; omega
  have u13 : ((k : Int) == 17) = false := by simp; omega
  have u14 : ((k : Int) == 18) = false := by simp; omega
  have u15 : ((k : Int) == 21) = false := by simp; omega
  have u16 : ((k : Int) == 22) = false := by simp; omega
  have u17 : ((k : Int) == 27) = false := by simp; omega
  have u18 : ((k : Int) == 28) = false := by simp; omega
  have u19 : ((k : Int) == 29) = false := by simp; omega
  have u20 : ((k : Int) == 30) = false := by simp; omega
  have u21 : ((k : Int) == 31) = false := by simp; omega
  have u22 : ((k : Int) == 35) = false := by simp; omega
  have u23 : ((k : Int) == 36) = false := by simp; omega
  have u24 : ((k : Int) == 23) = false := by simp; omega
  have u25 : ((k : Int) == 33) = false := by simp; omega
  have u26 : ((k : Int) == 34) = false := by simp; omega
  clear _hk
  have t0 : ((l.length : Int) == 0) = len0B l := deq1 rfl
  have Hr : Hid (len0B l = len0B l) := Lib.hid rfl
  generalize len0B l = b0 at t0 Hr ⊢
  clear _ha _hb
  go_enter Tryd.func63, Tryd.ntmps63
  go_wp2_with fail
  rw [← HB0.out]
  go_ret
  exact ⟨rfl, K⟩
end Go.Proofs.YtjefoojkgocinaaDoor

/- tree.asksItems, asksInside at each kind of nodes. -/
import Derived.Test.YtjefoojkgocinaaDoorTreeH
namespace Go.Proofs.YtjefoojkgocinaaDoor
open Go.RowKit
set_option maxRecDepth 100000 in
set_option maxHeartbeats 4000000 in
theorem asks_21 (at_ n : Int) (s : ByteArray) (la : Option Addr) (ll lc : Nat) (a : Option Addr) (l : List Nat) (cap : Nat) (w : World) (_hs : s.size ≤ 9223372036854775807) (hl : l.length ≤ 9223372036854775807) (ha : KindsAt w a l) (_hT : Tab w) (_hn1 : -9223372036854775808 ≤ n) (_hn2 : n ≤ 9223372036854775807) :
    Calls Tryd.prog 60 #[.agg #[.int .u8 21, .int .i64 at_, .int .i64 n, .string s, .slice la ll lc], .slice a l.length cap] w fun e w' => e = .returned (.bool (askB 21 n s l)) ∧ KB F0 w w' := by
  have Hr : Hid (askB 21 n s l = (justB l [.ex] && emptyB s && decide ((0 : Int) ≤ n) && decide (n ≤ (0 : Int)))) := Lib.hid rfl
  obtain ⟨B0, hB0⟩ : ∃ B0, B0 = (w.alloc (.cells #[.int .u8 21, .int .i64 at_, .int .i64 n, .string s, .slice la ll lc] 25)) := ⟨_, rfl⟩
  have K : KB F0 w B0 := by subst hB0; exact (KB.refl _ _).alloc _
  have c2 : B0.cell? ⟨w.heap.size, 2, none⟩ = some (.int .i64 n) := by subst hB0; exact new_cell _ _ _ 2
  have c3 : B0.cell? ⟨w.heap.size, 3, none⟩ = some (.string s) := by subst hB0; exact new_cell _ _ _ 3
  have HB0s : Hid (w.heap.size + 1 = B0.heap.size) := Lib.hid (by subst hB0; simp)
  have HB0 := Lib.hid hB0
  clear hB0
  have HJ := Lib.hid (fun W a2 cap2 (hk : KB F0 w W) (hc : ClsAt W a2 [.ex]) => justV a a2 l [.ex] cap cap2 W hl (by decide) (ha.kbF hk) hc)
  generalize justB l [.ex] = b0 at HJ Hr
  have tE : s.toList.isEmpty = emptyB s := rfl
  generalize emptyB s = bE at tE Hr
  obtain ⟨b1, hb1⟩ : ∃ b, decide ((0 : Int) ≤ n) = b := ⟨_, rfl⟩
  obtain ⟨b2, hb2⟩ : ∃ b, decide (n ≤ (0 : Int)) = b := ⟨_, rfl⟩
  rw [hb1, hb2] at Hr
  clear ha _hT
  cases b0
  · go_enter Tryd.func60, Tryd.ntmps60
    go_wp2_with fail
    rw [← HB0.out]
    try rw [HB0s.out]
    refine (HJ.out _ _ _ (K.trans (by repeat (first | exact KB.refl _ _ | refine KB.alloc ?_ _))) (clsat1 (W := B0) (show ClsV _ (.func (.func 70) #[] #[]) .ex from rfl))).mono ?_
    rintro e W1 ⟨rfl, hkk⟩
    have kk : KB F0 B0 W1 := KB.trans (by repeat (first | exact KB.refl _ _ | refine KB.alloc ?_ _)) hkk
    replace c2 := kk.cell (p := ⟨w.heap.size, 2, none⟩) (fun x => x) c2
    replace c3 := kk.cell (p := ⟨w.heap.size, 3, none⟩) (fun x => x) c3
    replace K := K.trans kk
    clear kk hkk
    go_wp2_with fail
    go_ret
    exact ⟨ret_eq (by rw [Hr.out]; rfl), K⟩
  · cases bE
    · go_enter Tryd.func60, Tryd.ntmps60
      go_wp2_with fail
      rw [← HB0.out]
      try rw [HB0s.out]
      refine (HJ.out _ _ _ (K.trans (by repeat (first | exact KB.refl _ _ | refine KB.alloc ?_ _))) (clsat1 (W := B0) (show ClsV _ (.func (.func 70) #[] #[]) .ex from rfl))).mono ?_
      rintro e W1 ⟨rfl, hkk⟩
      have kk : KB F0 B0 W1 := KB.trans (by repeat (first | exact KB.refl _ _ | refine KB.alloc ?_ _)) hkk
      replace c2 := kk.cell (p := ⟨w.heap.size, 2, none⟩) (fun x => x) c2
      replace c3 := kk.cell (p := ⟨w.heap.size, 3, none⟩) (fun x => x) c3
      replace K := K.trans kk
      clear kk hkk
      go_wp2_with fail
      go_ret
      exact ⟨ret_eq (by rw [Hr.out]; rfl), K⟩
    · cases b1
      · go_enter Tryd.func60, Tryd.ntmps60
        go_wp2_with fail
        rw [← HB0.out]
        try rw [HB0s.out]
        refine (HJ.out _ _ _ (K.trans (by repeat (first | exact KB.refl _ _ | refine KB.alloc ?_ _))) (clsat1 (W := B0) (show ClsV _ (.func (.func 70) #[] #[]) .ex from rfl))).mono ?_
        rintro e W1 ⟨rfl, hkk⟩
        have kk : KB F0 B0 W1 := KB.trans (by repeat (first | exact KB.refl _ _ | refine KB.alloc ?_ _)) hkk
        replace c2 := kk.cell (p := ⟨w.heap.size, 2, none⟩) (fun x => x) c2
        replace c3 := kk.cell (p := ⟨w.heap.size, 3, none⟩) (fun x => x) c3
        replace K := K.trans kk
        clear kk hkk
        go_wp2_with fail
        go_ret
        exact ⟨ret_eq (by rw [Hr.out]; rfl), K⟩

      · cases b2
        · go_enter Tryd.func60, Tryd.ntmps60
          go_wp2_with fail
          rw [← HB0.out]
          try rw [HB0s.out]
          refine (HJ.out _ _ _ (K.trans (by repeat (first | exact KB.refl _ _ | refine KB.alloc ?_ _))) (clsat1 (W := B0) (show ClsV _ (.func (.func 70) #[] #[]) .ex from rfl))).mono ?_
          rintro e W1 ⟨rfl, hkk⟩
          have kk : KB F0 B0 W1 := KB.trans (by repeat (first | exact KB.refl _ _ | refine KB.alloc ?_ _)) hkk
          replace c2 := kk.cell (p := ⟨w.heap.size, 2, none⟩) (fun x => x) c2
          replace c3 := kk.cell (p := ⟨w.heap.size, 3, none⟩) (fun x => x) c3
          replace K := K.trans kk
          clear kk hkk
          go_wp2_with fail
          go_ret
          exact ⟨ret_eq (by rw [Hr.out]; rfl), K⟩

        · go_enter Tryd.func60, Tryd.ntmps60
          go_wp2_with fail
          rw [← HB0.out]
          try rw [HB0s.out]
          refine (HJ.out _ _ _ (K.trans (by repeat (first | exact KB.refl _ _ | refine KB.alloc ?_ _))) (clsat1 (W := B0) (show ClsV _ (.func (.func 70) #[] #[]) .ex from rfl))).mono ?_
          rintro e W1 ⟨rfl, hkk⟩
          have kk : KB F0 B0 W1 := KB.trans (by repeat (first | exact KB.refl _ _ | refine KB.alloc ?_ _)) hkk
          replace c2 := kk.cell (p := ⟨w.heap.size, 2, none⟩) (fun x => x) c2
          replace c3 := kk.cell (p := ⟨w.heap.size, 3, none⟩) (fun x => x) c3
          replace K := K.trans kk
          clear kk hkk
          go_wp2_with fail
          go_ret
          exact ⟨ret_eq (by rw [Hr.out]; rfl), K⟩

set_option maxRecDepth 100000 in
set_option maxHeartbeats 4000000 in
theorem asks_22 (at_ n : Int) (s : ByteArray) (la : Option Addr) (ll lc : Nat) (a : Option Addr) (l : List Nat) (cap : Nat) (w : World) (_hs : s.size ≤ 9223372036854775807) (hl : l.length ≤ 9223372036854775807) (ha : KindsAt w a l) (_hT : Tab w) (_hn1 : -9223372036854775808 ≤ n) (_hn2 : n ≤ 9223372036854775807) :
    Calls Tryd.prog 60 #[.agg #[.int .u8 22, .int .i64 at_, .int .i64 n, .string s, .slice la ll lc], .slice a l.length cap] w fun e w' => e = .returned (.bool (askB 22 n s l)) ∧ KB F0 w w' := by
  have Hr : Hid (askB 22 n s l = (justB l [.ex] && emptyB s && decide ((0 : Int) ≤ n) && decide (n ≤ (0 : Int)))) := Lib.hid rfl
  obtain ⟨B0, hB0⟩ : ∃ B0, B0 = (w.alloc (.cells #[.int .u8 22, .int .i64 at_, .int .i64 n, .string s, .slice la ll lc] 25)) := ⟨_, rfl⟩
  have K : KB F0 w B0 := by subst hB0; exact (KB.refl _ _).alloc _
  have c2 : B0.cell? ⟨w.heap.size, 2, none⟩ = some (.int .i64 n) := by subst hB0; exact new_cell _ _ _ 2
  have c3 : B0.cell? ⟨w.heap.size, 3, none⟩ = some (.string s) := by subst hB0; exact new_cell _ _ _ 3
  have HB0s : Hid (w.heap.size + 1 = B0.heap.size) := Lib.hid (by subst hB0; simp)
  have HB0 := Lib.hid hB0
  clear hB0
  have HJ := Lib.hid (fun W a2 cap2 (hk : KB F0 w W) (hc : ClsAt W a2 [.ex]) => justV a a2 l [.ex] cap cap2 W hl (by decide) (ha.kbF hk) hc)
  generalize justB l [.ex] = b0 at HJ Hr
  have tE : s.toList.isEmpty = emptyB s := rfl
  generalize emptyB s = bE at tE Hr
  obtain ⟨b1, hb1⟩ : ∃ b, decide ((0 : Int) ≤ n) = b := ⟨_, rfl⟩
  obtain ⟨b2, hb2⟩ : ∃ b, decide (n ≤ (0 : Int)) = b := ⟨_, rfl⟩
  rw [hb1, hb2] at Hr
  clear ha _hT
  cases b0
  · go_enter Tryd.func60, Tryd.ntmps60
    go_wp2_with fail
    rw [← HB0.out]
    try rw [HB0s.out]
    refine (HJ.out _ _ _ (K.trans (by repeat (first | exact KB.refl _ _ | refine KB.alloc ?_ _))) (clsat1 (W := B0) (show ClsV _ (.func (.func 70) #[] #[]) .ex from rfl))).mono ?_
    rintro e W1 ⟨rfl, hkk⟩
    have kk : KB F0 B0 W1 := KB.trans (by repeat (first | exact KB.refl _ _ | refine KB.alloc ?_ _)) hkk
    replace c2 := kk.cell (p := ⟨w.heap.size, 2, none⟩) (fun x => x) c2
    replace c3 := kk.cell (p := ⟨w.heap.size, 3, none⟩) (fun x => x) c3
    replace K := K.trans kk
    clear kk hkk
    go_wp2_with fail
    go_ret
    exact ⟨ret_eq (by rw [Hr.out]; rfl), K⟩
  · cases bE
    · go_enter Tryd.func60, Tryd.ntmps60
      go_wp2_with fail
      rw [← HB0.out]
      try rw [HB0s.out]
      refine (HJ.out _ _ _ (K.trans (by repeat (first | exact KB.refl _ _ | refine KB.alloc ?_ _))) (clsat1 (W := B0) (show ClsV _ (.func (.func 70) #[] #[]) .ex from rfl))).mono ?_
      rintro e W1 ⟨rfl, hkk⟩
      have kk : KB F0 B0 W1 := KB.trans (by repeat (first | exact KB.refl _ _ | refine KB.alloc ?_ _)) hkk
      replace c2 := kk.cell (p := ⟨w.heap.size, 2, none⟩) (fun x => x) c2
      replace c3 := kk.cell (p := ⟨w.heap.size, 3, none⟩) (fun x => x) c3
      replace K := K.trans kk
      clear kk hkk
      go_wp2_with fail
      go_ret
      exact ⟨ret_eq (by rw [Hr.out]; rfl), K⟩
    · cases b1
      · go_enter Tryd.func60, Tryd.ntmps60
        go_wp2_with fail
        rw [← HB0.out]
        try rw [HB0s.out]
        refine (HJ.out _ _ _ (K.trans (by repeat (first | exact KB.refl _ _ | refine KB.alloc ?_ _))) (clsat1 (W := B0) (show ClsV _ (.func (.func 70) #[] #[]) .ex from rfl))).mono ?_
        rintro e W1 ⟨rfl, hkk⟩
        have kk : KB F0 B0 W1 := KB.trans (by repeat (first | exact KB.refl _ _ | refine KB.alloc ?_ _)) hkk
        replace c2 := kk.cell (p := ⟨w.heap.size, 2, none⟩) (fun x => x) c2
        replace c3 := kk.cell (p := ⟨w.heap.size, 3, none⟩) (fun x => x) c3
        replace K := K.trans kk
        clear kk hkk
        go_wp2_with fail
        go_ret
        exact ⟨ret_eq (by rw [Hr.out]; rfl), K⟩

      · cases b2
        · go_enter Tryd.func60, Tryd.ntmps60
          go_wp2_with fail
          rw [← HB0.out]
          try rw [HB0s.out]
          refine (HJ.out _ _ _ (K.trans (by repeat (first | exact KB.refl _ _ | refine KB.alloc ?_ _))) (clsat1 (W := B0) (show ClsV _ (.func (.func 70) #[] #[]) .ex from rfl))).mono ?_
          rintro e W1 ⟨rfl, hkk⟩
          have kk : KB F0 B0 W1 := KB.trans (by repeat (first | exact KB.refl _ _ | refine KB.alloc ?_ _)) hkk
          replace c2 := kk.cell (p := ⟨w.heap.size, 2, none⟩) (fun x => x) c2
          replace c3 := kk.cell (p := ⟨w.heap.size, 3, none⟩) (fun x => x) c3
          replace K := K.trans kk
          clear kk hkk
          go_wp2_with fail
          go_ret
          exact ⟨ret_eq (by rw [Hr.out]; rfl), K⟩

        · go_enter Tryd.func60, Tryd.ntmps60
          go_wp2_with fail
          rw [← HB0.out]
          try rw [HB0s.out]
          refine (HJ.out _ _ _ (K.trans (by repeat (first | exact KB.refl _ _ | refine KB.alloc ?_ _))) (clsat1 (W := B0) (show ClsV _ (.func (.func 70) #[] #[]) .ex from rfl))).mono ?_
          rintro e W1 ⟨rfl, hkk⟩
          have kk : KB F0 B0 W1 := KB.trans (by repeat (first | exact KB.refl _ _ | refine KB.alloc ?_ _)) hkk
          replace c2 := kk.cell (p := ⟨w.heap.size, 2, none⟩) (fun x => x) c2
          replace c3 := kk.cell (p := ⟨w.heap.size, 3, none⟩) (fun x => x) c3
          replace K := K.trans kk
          clear kk hkk
          go_wp2_with fail
          go_ret
          exact ⟨ret_eq (by rw [Hr.out]; rfl), K⟩

set_option maxRecDepth 100000 in
set_option maxHeartbeats 4000000 in
theorem asks_23 (at_ n : Int) (s : ByteArray) (la : Option Addr) (ll lc : Nat) (a : Option Addr) (l : List Nat) (cap : Nat) (w : World) (_hs : s.size ≤ 9223372036854775807) (hl : l.length ≤ 9223372036854775807) (ha : KindsAt w a l) (_hT : Tab w) (_hn1 : -9223372036854775808 ≤ n) (_hn2 : n ≤ 9223372036854775807) :
    Calls Tryd.prog 60 #[.agg #[.int .u8 23, .int .i64 at_, .int .i64 n, .string s, .slice la ll lc], .slice a l.length cap] w fun e w' => e = .returned (.bool (askB 23 n s l)) ∧ KB F0 w w' := by
  have Hr : Hid (askB 23 n s l = (justB l [.kd [33]] && emptyB s && decide ((0 : Int) ≤ n) && decide (n ≤ (0 : Int)))) := Lib.hid rfl
  obtain ⟨B0, hB0⟩ : ∃ B0, B0 = (w.alloc (.cells #[.int .u8 23, .int .i64 at_, .int .i64 n, .string s, .slice la ll lc] 25)) := ⟨_, rfl⟩
  have K : KB F0 w B0 := by subst hB0; exact (KB.refl _ _).alloc _
  have c2 : B0.cell? ⟨w.heap.size, 2, none⟩ = some (.int .i64 n) := by subst hB0; exact new_cell _ _ _ 2
  have c3 : B0.cell? ⟨w.heap.size, 3, none⟩ = some (.string s) := by subst hB0; exact new_cell _ _ _ 3
  have HB0s : Hid (w.heap.size + 1 = B0.heap.size) := Lib.hid (by subst hB0; simp)
  have HB0 := Lib.hid hB0
  clear hB0
  have HJ := Lib.hid (fun W a2 cap2 (hk : KB F0 w W) (hc : ClsAt W a2 [.kd [33]]) => justV a a2 l [.kd [33]] cap cap2 W hl (by decide) (ha.kbF hk) hc)
  generalize justB l [.kd [33]] = b0 at HJ Hr
  have tE : s.toList.isEmpty = emptyB s := rfl
  generalize emptyB s = bE at tE Hr
  obtain ⟨b1, hb1⟩ : ∃ b, decide ((0 : Int) ≤ n) = b := ⟨_, rfl⟩
  obtain ⟨b2, hb2⟩ : ∃ b, decide (n ≤ (0 : Int)) = b := ⟨_, rfl⟩
  rw [hb1, hb2] at Hr
  clear ha _hT
  cases b0
  · go_enter Tryd.func60, Tryd.ntmps60
    go_wp2_with fail
    rw [← HB0.out]
    try rw [HB0s.out]
    refine (kindCall (ks := [33]) _ (by decide) (alloc_new B0 _)).mono ?_
    rintro e W1 ⟨kb1, rfl, hc0, hkk⟩
    have kk : KB F0 B0 W1 := KB.trans (by repeat (first | exact KB.refl _ _ | refine KB.alloc ?_ _)) hkk
    replace c2 := kk.cell (p := ⟨w.heap.size, 2, none⟩) (fun x => x) c2
    replace c3 := kk.cell (p := ⟨w.heap.size, 3, none⟩) (fun x => x) c3
    replace K := K.trans kk
    clear kk hkk
    go_wp2_with fail
    refine (HJ.out _ _ _ (K.trans (by repeat (first | exact KB.refl _ _ | refine KB.alloc ?_ _))) (clsat1 (W := W1) hc0)).mono ?_
    rintro e W2 ⟨rfl, hkk⟩
    have kk : KB F0 W1 W2 := KB.trans (by repeat (first | exact KB.refl _ _ | refine KB.alloc ?_ _)) hkk
    replace c2 := kk.cell (p := ⟨w.heap.size, 2, none⟩) (fun x => x) c2
    replace c3 := kk.cell (p := ⟨w.heap.size, 3, none⟩) (fun x => x) c3
    replace K := K.trans kk
    clear kk hkk
    go_wp2_with fail
    go_ret
    exact ⟨ret_eq (by rw [Hr.out]; rfl), K⟩
  · cases bE
    · go_enter Tryd.func60, Tryd.ntmps60
      go_wp2_with fail
      rw [← HB0.out]
      try rw [HB0s.out]
      refine (kindCall (ks := [33]) _ (by decide) (alloc_new B0 _)).mono ?_
      rintro e W1 ⟨kb1, rfl, hc0, hkk⟩
      have kk : KB F0 B0 W1 := KB.trans (by repeat (first | exact KB.refl _ _ | refine KB.alloc ?_ _)) hkk
      replace c2 := kk.cell (p := ⟨w.heap.size, 2, none⟩) (fun x => x) c2
      replace c3 := kk.cell (p := ⟨w.heap.size, 3, none⟩) (fun x => x) c3
      replace K := K.trans kk
      clear kk hkk
      go_wp2_with fail
      refine (HJ.out _ _ _ (K.trans (by repeat (first | exact KB.refl _ _ | refine KB.alloc ?_ _))) (clsat1 (W := W1) hc0)).mono ?_
      rintro e W2 ⟨rfl, hkk⟩
      have kk : KB F0 W1 W2 := KB.trans (by repeat (first | exact KB.refl _ _ | refine KB.alloc ?_ _)) hkk
      replace c2 := kk.cell (p := ⟨w.heap.size, 2, none⟩) (fun x => x) c2
      replace c3 := kk.cell (p := ⟨w.heap.size, 3, none⟩) (fun x => x) c3
      replace K := K.trans kk
      clear kk hkk
      go_wp2_with fail
      go_ret
      exact ⟨ret_eq (by rw [Hr.out]; rfl), K⟩
    · cases b1
      · go_enter Tryd.func60, Tryd.ntmps60
        go_wp2_with fail
        rw [← HB0.out]
        try rw [HB0s.out]
        refine (kindCall (ks := [33]) _ (by decide) (alloc_new B0 _)).mono ?_
        rintro e W1 ⟨kb1, rfl, hc0, hkk⟩
        have kk : KB F0 B0 W1 := KB.trans (by repeat (first | exact KB.refl _ _ | refine KB.alloc ?_ _)) hkk
        replace c2 := kk.cell (p := ⟨w.heap.size, 2, none⟩) (fun x => x) c2
        replace c3 := kk.cell (p := ⟨w.heap.size, 3, none⟩) (fun x => x) c3
        replace K := K.trans kk
        clear kk hkk
        go_wp2_with fail
        refine (HJ.out _ _ _ (K.trans (by repeat (first | exact KB.refl _ _ | refine KB.alloc ?_ _))) (clsat1 (W := W1) hc0)).mono ?_
        rintro e W2 ⟨rfl, hkk⟩
        have kk : KB F0 W1 W2 := KB.trans (by repeat (first | exact KB.refl _ _ | refine KB.alloc ?_ _)) hkk
        replace c2 := kk.cell (p := ⟨w.heap.size, 2, none⟩) (fun x => x) c2
        replace c3 := kk.cell (p := ⟨w.heap.size, 3, none⟩) (fun x => x) c3
        replace K := K.trans kk
        clear kk hkk
        go_wp2_with fail
        go_ret
        exact ⟨ret_eq (by rw [Hr.out]; rfl), K⟩

      · cases b2
        · go_enter Tryd.func60, Tryd.ntmps60
          go_wp2_with fail
          rw [← HB0.out]
          try rw [HB0s.out]
          refine (kindCall (ks := [33]) _ (by decide) (alloc_new B0 _)).mono ?_
          rintro e W1 ⟨kb1, rfl, hc0, hkk⟩
          have kk : KB F0 B0 W1 := KB.trans (by repeat (first | exact KB.refl _ _ | refine KB.alloc ?_ _)) hkk
          replace c2 := kk.cell (p := ⟨w.heap.size, 2, none⟩) (fun x => x) c2
          replace c3 := kk.cell (p := ⟨w.heap.size, 3, none⟩) (fun x => x) c3
          replace K := K.trans kk
          clear kk hkk
          go_wp2_with fail
          refine (HJ.out _ _ _ (K.trans (by repeat (first | exact KB.refl _ _ | refine KB.alloc ?_ _))) (clsat1 (W := W1) hc0)).mono ?_
          rintro e W2 ⟨rfl, hkk⟩
          have kk : KB F0 W1 W2 := KB.trans (by repeat (first | exact KB.refl _ _ | refine KB.alloc ?_ _)) hkk
          replace c2 := kk.cell (p := ⟨w.heap.size, 2, none⟩) (fun x => x) c2
          replace c3 := kk.cell (p := ⟨w.heap.size, 3, none⟩) (fun x => x) c3
          replace K := K.trans kk
          clear kk hkk
          go_wp2_with fail
          go_ret
          exact ⟨ret_eq (by rw [Hr.out]; rfl), K⟩

        · go_enter Tryd.func60, Tryd.ntmps60
          go_wp2_with fail
          rw [← HB0.out]
          try rw [HB0s.out]
          refine (kindCall (ks := [33]) _ (by decide) (alloc_new B0 _)).mono ?_
          rintro e W1 ⟨kb1, rfl, hc0, hkk⟩
          have kk : KB F0 B0 W1 := KB.trans (by repeat (first | exact KB.refl _ _ | refine KB.alloc ?_ _)) hkk
          replace c2 := kk.cell (p := ⟨w.heap.size, 2, none⟩) (fun x => x) c2
          replace c3 := kk.cell (p := ⟨w.heap.size, 3, none⟩) (fun x => x) c3
          replace K := K.trans kk
          clear kk hkk
          go_wp2_with fail
          refine (HJ.out _ _ _ (K.trans (by repeat (first | exact KB.refl _ _ | refine KB.alloc ?_ _))) (clsat1 (W := W1) hc0)).mono ?_
          rintro e W2 ⟨rfl, hkk⟩
          have kk : KB F0 W1 W2 := KB.trans (by repeat (first | exact KB.refl _ _ | refine KB.alloc ?_ _)) hkk
          replace c2 := kk.cell (p := ⟨w.heap.size, 2, none⟩) (fun x => x) c2
          replace c3 := kk.cell (p := ⟨w.heap.size, 3, none⟩) (fun x => x) c3
          replace K := K.trans kk
          clear kk hkk
          go_wp2_with fail
          go_ret
          exact ⟨ret_eq (by rw [Hr.out]; rfl), K⟩

set_option maxRecDepth 100000 in
set_option maxHeartbeats 4000000 in
theorem asks_24 (at_ n : Int) (s : ByteArray) (la : Option Addr) (ll lc : Nat) (a : Option Addr) (l : List Nat) (cap : Nat) (w : World) (_hs : s.size ≤ 9223372036854775807) (_hl : l.length ≤ 9223372036854775807) (_ha : KindsAt w a l) (_hT : Tab w) (_hn1 : -9223372036854775808 ≤ n) (hn2 : n ≤ 9223372036854775807) :
    Calls Tryd.prog 60 #[.agg #[.int .u8 24, .int .i64 at_, .int .i64 n, .string s, .slice la ll lc], .slice a l.length cap] w fun e w' => e = .returned (.bool (askB 24 n s l)) ∧ KB F0 w w' := by
  have Hr : Hid (askB 24 n s l = (len0B l && emptyB s && decide ((0 : Int) ≤ n) && decide (n ≤ (9223372036854775807 : Int)))) := Lib.hid rfl
  obtain ⟨B0, hB0⟩ : ∃ B0, B0 = (w.alloc (.cells #[.int .u8 24, .int .i64 at_, .int .i64 n, .string s, .slice la ll lc] 25)) := ⟨_, rfl⟩
  have K : KB F0 w B0 := by subst hB0; exact (KB.refl _ _).alloc _
  have c2 : B0.cell? ⟨w.heap.size, 2, none⟩ = some (.int .i64 n) := by subst hB0; exact new_cell _ _ _ 2
  have c3 : B0.cell? ⟨w.heap.size, 3, none⟩ = some (.string s) := by subst hB0; exact new_cell _ _ _ 3
  have HB0s : Hid (w.heap.size + 1 = B0.heap.size) := Lib.hid (by subst hB0; simp)
  have HB0 := Lib.hid hB0
  clear hB0
  have t0 : ((l.length : Int) == 0) = len0B l := deq1 rfl
  generalize len0B l = b0 at t0 Hr
  have tE : s.toList.isEmpty = emptyB s := rfl
  generalize emptyB s = bE at tE Hr
  obtain ⟨b1, hb1⟩ : ∃ b, decide ((0 : Int) ≤ n) = b := ⟨_, rfl⟩
  have hb2 : decide (n ≤ (9223372036854775807 : Int)) = true := by simpa using hn2
  rw [hb1, hb2] at Hr
  clear _ha _hT
  cases b0
  · go_enter Tryd.func60, Tryd.ntmps60
    go_wp2_with fail
    rw [← HB0.out]
    try rw [HB0s.out]
    go_ret
    exact ⟨ret_eq (by rw [Hr.out]; rfl), K⟩
  · cases bE
    · go_enter Tryd.func60, Tryd.ntmps60
      go_wp2_with fail
      rw [← HB0.out]
      try rw [HB0s.out]
      go_ret
      exact ⟨ret_eq (by rw [Hr.out]; rfl), K⟩
    · cases b1
      · go_enter Tryd.func60, Tryd.ntmps60
        go_wp2_with fail
        rw [← HB0.out]
        try rw [HB0s.out]
        go_ret
        exact ⟨ret_eq (by rw [Hr.out]; rfl), K⟩

      · go_enter Tryd.func60, Tryd.ntmps60
        go_wp2_with fail
        rw [← HB0.out]
        try rw [HB0s.out]
        go_ret
        exact ⟨ret_eq (by rw [Hr.out]; rfl), K⟩

set_option maxRecDepth 100000 in
set_option maxHeartbeats 4000000 in
theorem asks_25 (at_ n : Int) (s : ByteArray) (la : Option Addr) (ll lc : Nat) (a : Option Addr) (l : List Nat) (cap : Nat) (w : World) (_hs : s.size ≤ 9223372036854775807) (_hl : l.length ≤ 9223372036854775807) (_ha : KindsAt w a l) (_hT : Tab w) (_hn1 : -9223372036854775808 ≤ n) (_hn2 : n ≤ 9223372036854775807) :
    Calls Tryd.prog 60 #[.agg #[.int .u8 25, .int .i64 at_, .int .i64 n, .string s, .slice la ll lc], .slice a l.length cap] w fun e w' => e = .returned (.bool (askB 25 n s l)) ∧ KB F0 w w' := by
  have Hr : Hid (askB 25 n s l = (len0B l && emptyB s && decide ((0 : Int) ≤ n) && decide (n ≤ (1 : Int)))) := Lib.hid rfl
  obtain ⟨B0, hB0⟩ : ∃ B0, B0 = (w.alloc (.cells #[.int .u8 25, .int .i64 at_, .int .i64 n, .string s, .slice la ll lc] 25)) := ⟨_, rfl⟩
  have K : KB F0 w B0 := by subst hB0; exact (KB.refl _ _).alloc _
  have c2 : B0.cell? ⟨w.heap.size, 2, none⟩ = some (.int .i64 n) := by subst hB0; exact new_cell _ _ _ 2
  have c3 : B0.cell? ⟨w.heap.size, 3, none⟩ = some (.string s) := by subst hB0; exact new_cell _ _ _ 3
  have HB0s : Hid (w.heap.size + 1 = B0.heap.size) := Lib.hid (by subst hB0; simp)
  have HB0 := Lib.hid hB0
  clear hB0
  have t0 : ((l.length : Int) == 0) = len0B l := deq1 rfl
  generalize len0B l = b0 at t0 Hr
  have tE : s.toList.isEmpty = emptyB s := rfl
  generalize emptyB s = bE at tE Hr
  obtain ⟨b1, hb1⟩ : ∃ b, decide ((0 : Int) ≤ n) = b := ⟨_, rfl⟩
  obtain ⟨b2, hb2⟩ : ∃ b, decide (n ≤ (1 : Int)) = b := ⟨_, rfl⟩
  rw [hb1, hb2] at Hr
  clear _ha _hT
  cases b0
  · go_enter Tryd.func60, Tryd.ntmps60
    go_wp2_with fail
    rw [← HB0.out]
    try rw [HB0s.out]
    go_ret
    exact ⟨ret_eq (by rw [Hr.out]; rfl), K⟩
  · cases bE
    · go_enter Tryd.func60, Tryd.ntmps60
      go_wp2_with fail
      rw [← HB0.out]
      try rw [HB0s.out]
      go_ret
      exact ⟨ret_eq (by rw [Hr.out]; rfl), K⟩
    · cases b1
      · go_enter Tryd.func60, Tryd.ntmps60
        go_wp2_with fail
        rw [← HB0.out]
        try rw [HB0s.out]
        go_ret
        exact ⟨ret_eq (by rw [Hr.out]; rfl), K⟩

      · cases b2
        · go_enter Tryd.func60, Tryd.ntmps60
          go_wp2_with fail
          rw [← HB0.out]
          try rw [HB0s.out]
          go_ret
          exact ⟨ret_eq (by rw [Hr.out]; rfl), K⟩

        · go_enter Tryd.func60, Tryd.ntmps60
          go_wp2_with fail
          rw [← HB0.out]
          try rw [HB0s.out]
          go_ret
          exact ⟨ret_eq (by rw [Hr.out]; rfl), K⟩

set_option maxRecDepth 100000 in
set_option maxHeartbeats 4000000 in
theorem asks_26 (at_ n : Int) (s : ByteArray) (la : Option Addr) (ll lc : Nat) (a : Option Addr) (l : List Nat) (cap : Nat) (w : World) (hs : s.size ≤ 9223372036854775807) (_hl : l.length ≤ 9223372036854775807) (_ha : KindsAt w a l) (hT : Tab w) (_hn1 : -9223372036854775808 ≤ n) (_hn2 : n ≤ 9223372036854775807) :
    Calls Tryd.prog 60 #[.agg #[.int .u8 26, .int .i64 at_, .int .i64 n, .string s, .slice la ll lc], .slice a l.length cap] w fun e w' => e = .returned (.bool (askB 26 n s l)) ∧ KB F0 w w' := by
  have Hr : Hid (askB 26 n s l = (len0B l && nameB s && decide ((0 : Int) ≤ n) && decide (n ≤ (0 : Int)))) := Lib.hid rfl
  obtain ⟨B0, hB0⟩ : ∃ B0, B0 = (w.alloc (.cells #[.int .u8 26, .int .i64 at_, .int .i64 n, .string s, .slice la ll lc] 25)) := ⟨_, rfl⟩
  have K : KB F0 w B0 := by subst hB0; exact (KB.refl _ _).alloc _
  have c2 : B0.cell? ⟨w.heap.size, 2, none⟩ = some (.int .i64 n) := by subst hB0; exact new_cell _ _ _ 2
  have c3 : B0.cell? ⟨w.heap.size, 3, none⟩ = some (.string s) := by subst hB0; exact new_cell _ _ _ 3
  have HB0s : Hid (w.heap.size + 1 = B0.heap.size) := Lib.hid (by subst hB0; simp)
  have HB0 := Lib.hid hB0
  clear hB0
  have HN := Lib.hid (fun W (hk : KB F0 w W) => name_any s W hs (hT.kb hk))
  have t0 : ((l.length : Int) == 0) = len0B l := deq1 rfl
  generalize len0B l = b0 at t0 Hr
  generalize nameB s = bN at HN Hr
  obtain ⟨b1, hb1⟩ : ∃ b, decide ((0 : Int) ≤ n) = b := ⟨_, rfl⟩
  obtain ⟨b2, hb2⟩ : ∃ b, decide (n ≤ (0 : Int)) = b := ⟨_, rfl⟩
  rw [hb1, hb2] at Hr
  clear _ha hT
  cases b0
  · go_enter Tryd.func60, Tryd.ntmps60
    go_wp2_with fail
    rw [← HB0.out]
    try rw [HB0s.out]
    refine (HN.out _ (K.trans (by repeat (first | exact KB.refl _ _ | refine KB.alloc ?_ _)))).mono ?_
    rintro e W1 ⟨rfl, hkk⟩
    have kk : KB F0 B0 W1 := KB.trans (by repeat (first | exact KB.refl _ _ | refine KB.alloc ?_ _)) hkk
    replace c2 := kk.cell (p := ⟨w.heap.size, 2, none⟩) (fun x => x) c2
    replace c3 := kk.cell (p := ⟨w.heap.size, 3, none⟩) (fun x => x) c3
    replace K := K.trans kk
    clear kk hkk
    go_wp2_with fail
    go_ret
    exact ⟨ret_eq (by rw [Hr.out]; rfl), K⟩
  · cases bN
    · go_enter Tryd.func60, Tryd.ntmps60
      go_wp2_with fail
      rw [← HB0.out]
      try rw [HB0s.out]
      refine (HN.out _ (K.trans (by repeat (first | exact KB.refl _ _ | refine KB.alloc ?_ _)))).mono ?_
      rintro e W1 ⟨rfl, hkk⟩
      have kk : KB F0 B0 W1 := KB.trans (by repeat (first | exact KB.refl _ _ | refine KB.alloc ?_ _)) hkk
      replace c2 := kk.cell (p := ⟨w.heap.size, 2, none⟩) (fun x => x) c2
      replace c3 := kk.cell (p := ⟨w.heap.size, 3, none⟩) (fun x => x) c3
      replace K := K.trans kk
      clear kk hkk
      go_wp2_with fail
      go_ret
      exact ⟨ret_eq (by rw [Hr.out]; rfl), K⟩
    · cases b1
      · go_enter Tryd.func60, Tryd.ntmps60
        go_wp2_with fail
        rw [← HB0.out]
        try rw [HB0s.out]
        refine (HN.out _ (K.trans (by repeat (first | exact KB.refl _ _ | refine KB.alloc ?_ _)))).mono ?_
        rintro e W1 ⟨rfl, hkk⟩
        have kk : KB F0 B0 W1 := KB.trans (by repeat (first | exact KB.refl _ _ | refine KB.alloc ?_ _)) hkk
        replace c2 := kk.cell (p := ⟨w.heap.size, 2, none⟩) (fun x => x) c2
        replace c3 := kk.cell (p := ⟨w.heap.size, 3, none⟩) (fun x => x) c3
        replace K := K.trans kk
        clear kk hkk
        go_wp2_with fail
        go_ret
        exact ⟨ret_eq (by rw [Hr.out]; rfl), K⟩

      · cases b2
        · go_enter Tryd.func60, Tryd.ntmps60
          go_wp2_with fail
          rw [← HB0.out]
          try rw [HB0s.out]
          refine (HN.out _ (K.trans (by repeat (first | exact KB.refl _ _ | refine KB.alloc ?_ _)))).mono ?_
          rintro e W1 ⟨rfl, hkk⟩
          have kk : KB F0 B0 W1 := KB.trans (by repeat (first | exact KB.refl _ _ | refine KB.alloc ?_ _)) hkk
          replace c2 := kk.cell (p := ⟨w.heap.size, 2, none⟩) (fun x => x) c2
          replace c3 := kk.cell (p := ⟨w.heap.size, 3, none⟩) (fun x => x) c3
          replace K := K.trans kk
          clear kk hkk
          go_wp2_with fail
          go_ret
          exact ⟨ret_eq (by rw [Hr.out]; rfl), K⟩

        · go_enter Tryd.func60, Tryd.ntmps60
          go_wp2_with fail
          rw [← HB0.out]
          try rw [HB0s.out]
          refine (HN.out _ (K.trans (by repeat (first | exact KB.refl _ _ | refine KB.alloc ?_ _)))).mono ?_
          rintro e W1 ⟨rfl, hkk⟩
          have kk : KB F0 B0 W1 := KB.trans (by repeat (first | exact KB.refl _ _ | refine KB.alloc ?_ _)) hkk
          replace c2 := kk.cell (p := ⟨w.heap.size, 2, none⟩) (fun x => x) c2
          replace c3 := kk.cell (p := ⟨w.heap.size, 3, none⟩) (fun x => x) c3
          replace K := K.trans kk
          clear kk hkk
          go_wp2_with fail
          go_ret
          exact ⟨ret_eq (by rw [Hr.out]; rfl), K⟩

end Go.Proofs.YtjefoojkgocinaaDoor

namespace Go.Proofs.YtjefoojkgocinaaDoor
open Go.RowKit
set_option maxRecDepth 100000 in
set_option maxHeartbeats 4000000 in
theorem asks_27 (at_ n : Int) (s : ByteArray) (la : Option Addr) (ll lc : Nat) (a : Option Addr) (l : List Nat) (cap : Nat) (w : World) (hs : s.size ≤ 9223372036854775807) (hl : l.length ≤ 9223372036854775807) (ha : KindsAt w a l) (hT : Tab w) (_hn1 : -9223372036854775808 ≤ n) (_hn2 : n ≤ 9223372036854775807) :
    Calls Tryd.prog 60 #[.agg #[.int .u8 27, .int .i64 at_, .int .i64 n, .string s, .slice la ll lc], .slice a l.length cap] w fun e w' => e = .returned (.bool (askB 27 n s l)) ∧ KB F0 w w' := by
  have Hr : Hid (askB 27 n s l = (justB l [.ex] && nameB s && decide ((0 : Int) ≤ n) && decide (n ≤ (0 : Int)))) := Lib.hid rfl
  obtain ⟨B0, hB0⟩ : ∃ B0, B0 = (w.alloc (.cells #[.int .u8 27, .int .i64 at_, .int .i64 n, .string s, .slice la ll lc] 25)) := ⟨_, rfl⟩
  have K : KB F0 w B0 := by subst hB0; exact (KB.refl _ _).alloc _
  have c2 : B0.cell? ⟨w.heap.size, 2, none⟩ = some (.int .i64 n) := by subst hB0; exact new_cell _ _ _ 2
  have c3 : B0.cell? ⟨w.heap.size, 3, none⟩ = some (.string s) := by subst hB0; exact new_cell _ _ _ 3
  have HB0s : Hid (w.heap.size + 1 = B0.heap.size) := Lib.hid (by subst hB0; simp)
  have HB0 := Lib.hid hB0
  clear hB0
  have HN := Lib.hid (fun W (hk : KB F0 w W) => name_any s W hs (hT.kb hk))
  have HJ := Lib.hid (fun W a2 cap2 (hk : KB F0 w W) (hc : ClsAt W a2 [.ex]) => justV a a2 l [.ex] cap cap2 W hl (by decide) (ha.kbF hk) hc)
  generalize justB l [.ex] = b0 at HJ Hr
  generalize nameB s = bN at HN Hr
  obtain ⟨b1, hb1⟩ : ∃ b, decide ((0 : Int) ≤ n) = b := ⟨_, rfl⟩
  obtain ⟨b2, hb2⟩ : ∃ b, decide (n ≤ (0 : Int)) = b := ⟨_, rfl⟩
  rw [hb1, hb2] at Hr
  clear ha hT
  cases b0
  · go_enter Tryd.func60, Tryd.ntmps60
    go_wp2_with fail
    rw [← HB0.out]
    try rw [HB0s.out]
    refine (HN.out _ (K.trans (by repeat (first | exact KB.refl _ _ | refine KB.alloc ?_ _)))).mono ?_
    rintro e W1 ⟨rfl, hkk⟩
    have kk : KB F0 B0 W1 := KB.trans (by repeat (first | exact KB.refl _ _ | refine KB.alloc ?_ _)) hkk
    replace c2 := kk.cell (p := ⟨w.heap.size, 2, none⟩) (fun x => x) c2
    replace c3 := kk.cell (p := ⟨w.heap.size, 3, none⟩) (fun x => x) c3
    replace K := K.trans kk
    clear kk hkk
    go_wp2_with fail
    refine (HJ.out _ _ _ (K.trans (by repeat (first | exact KB.refl _ _ | refine KB.alloc ?_ _))) (clsat1 (W := W1) (show ClsV _ (.func (.func 70) #[] #[]) .ex from rfl))).mono ?_
    rintro e W2 ⟨rfl, hkk⟩
    have kk : KB F0 W1 W2 := KB.trans (by repeat (first | exact KB.refl _ _ | refine KB.alloc ?_ _)) hkk
    replace c2 := kk.cell (p := ⟨w.heap.size, 2, none⟩) (fun x => x) c2
    replace c3 := kk.cell (p := ⟨w.heap.size, 3, none⟩) (fun x => x) c3
    replace K := K.trans kk
    clear kk hkk
    go_wp2_with fail
    go_ret
    exact ⟨ret_eq (by rw [Hr.out]; rfl), K⟩
  · cases bN
    · go_enter Tryd.func60, Tryd.ntmps60
      go_wp2_with fail
      rw [← HB0.out]
      try rw [HB0s.out]
      refine (HN.out _ (K.trans (by repeat (first | exact KB.refl _ _ | refine KB.alloc ?_ _)))).mono ?_
      rintro e W1 ⟨rfl, hkk⟩
      have kk : KB F0 B0 W1 := KB.trans (by repeat (first | exact KB.refl _ _ | refine KB.alloc ?_ _)) hkk
      replace c2 := kk.cell (p := ⟨w.heap.size, 2, none⟩) (fun x => x) c2
      replace c3 := kk.cell (p := ⟨w.heap.size, 3, none⟩) (fun x => x) c3
      replace K := K.trans kk
      clear kk hkk
      go_wp2_with fail
      refine (HJ.out _ _ _ (K.trans (by repeat (first | exact KB.refl _ _ | refine KB.alloc ?_ _))) (clsat1 (W := W1) (show ClsV _ (.func (.func 70) #[] #[]) .ex from rfl))).mono ?_
      rintro e W2 ⟨rfl, hkk⟩
      have kk : KB F0 W1 W2 := KB.trans (by repeat (first | exact KB.refl _ _ | refine KB.alloc ?_ _)) hkk
      replace c2 := kk.cell (p := ⟨w.heap.size, 2, none⟩) (fun x => x) c2
      replace c3 := kk.cell (p := ⟨w.heap.size, 3, none⟩) (fun x => x) c3
      replace K := K.trans kk
      clear kk hkk
      go_wp2_with fail
      go_ret
      exact ⟨ret_eq (by rw [Hr.out]; rfl), K⟩
    · cases b1
      · go_enter Tryd.func60, Tryd.ntmps60
        go_wp2_with fail
        rw [← HB0.out]
        try rw [HB0s.out]
        refine (HN.out _ (K.trans (by repeat (first | exact KB.refl _ _ | refine KB.alloc ?_ _)))).mono ?_
        rintro e W1 ⟨rfl, hkk⟩
        have kk : KB F0 B0 W1 := KB.trans (by repeat (first | exact KB.refl _ _ | refine KB.alloc ?_ _)) hkk
        replace c2 := kk.cell (p := ⟨w.heap.size, 2, none⟩) (fun x => x) c2
        replace c3 := kk.cell (p := ⟨w.heap.size, 3, none⟩) (fun x => x) c3
        replace K := K.trans kk
        clear kk hkk
        go_wp2_with fail
        refine (HJ.out _ _ _ (K.trans (by repeat (first | exact KB.refl _ _ | refine KB.alloc ?_ _))) (clsat1 (W := W1) (show ClsV _ (.func (.func 70) #[] #[]) .ex from rfl))).mono ?_
        rintro e W2 ⟨rfl, hkk⟩
        have kk : KB F0 W1 W2 := KB.trans (by repeat (first | exact KB.refl _ _ | refine KB.alloc ?_ _)) hkk
        replace c2 := kk.cell (p := ⟨w.heap.size, 2, none⟩) (fun x => x) c2
        replace c3 := kk.cell (p := ⟨w.heap.size, 3, none⟩) (fun x => x) c3
        replace K := K.trans kk
        clear kk hkk
        go_wp2_with fail
        go_ret
        exact ⟨ret_eq (by rw [Hr.out]; rfl), K⟩

      · cases b2
        · go_enter Tryd.func60, Tryd.ntmps60
          go_wp2_with fail
          rw [← HB0.out]
          try rw [HB0s.out]
          refine (HN.out _ (K.trans (by repeat (first | exact KB.refl _ _ | refine KB.alloc ?_ _)))).mono ?_
          rintro e W1 ⟨rfl, hkk⟩
          have kk : KB F0 B0 W1 := KB.trans (by repeat (first | exact KB.refl _ _ | refine KB.alloc ?_ _)) hkk
          replace c2 := kk.cell (p := ⟨w.heap.size, 2, none⟩) (fun x => x) c2
          replace c3 := kk.cell (p := ⟨w.heap.size, 3, none⟩) (fun x => x) c3
          replace K := K.trans kk
          clear kk hkk
          go_wp2_with fail
          refine (HJ.out _ _ _ (K.trans (by repeat (first | exact KB.refl _ _ | refine KB.alloc ?_ _))) (clsat1 (W := W1) (show ClsV _ (.func (.func 70) #[] #[]) .ex from rfl))).mono ?_
          rintro e W2 ⟨rfl, hkk⟩
          have kk : KB F0 W1 W2 := KB.trans (by repeat (first | exact KB.refl _ _ | refine KB.alloc ?_ _)) hkk
          replace c2 := kk.cell (p := ⟨w.heap.size, 2, none⟩) (fun x => x) c2
          replace c3 := kk.cell (p := ⟨w.heap.size, 3, none⟩) (fun x => x) c3
          replace K := K.trans kk
          clear kk hkk
          go_wp2_with fail
          go_ret
          exact ⟨ret_eq (by rw [Hr.out]; rfl), K⟩

        · go_enter Tryd.func60, Tryd.ntmps60
          go_wp2_with fail
          rw [← HB0.out]
          try rw [HB0s.out]
          refine (HN.out _ (K.trans (by repeat (first | exact KB.refl _ _ | refine KB.alloc ?_ _)))).mono ?_
          rintro e W1 ⟨rfl, hkk⟩
          have kk : KB F0 B0 W1 := KB.trans (by repeat (first | exact KB.refl _ _ | refine KB.alloc ?_ _)) hkk
          replace c2 := kk.cell (p := ⟨w.heap.size, 2, none⟩) (fun x => x) c2
          replace c3 := kk.cell (p := ⟨w.heap.size, 3, none⟩) (fun x => x) c3
          replace K := K.trans kk
          clear kk hkk
          go_wp2_with fail
          refine (HJ.out _ _ _ (K.trans (by repeat (first | exact KB.refl _ _ | refine KB.alloc ?_ _))) (clsat1 (W := W1) (show ClsV _ (.func (.func 70) #[] #[]) .ex from rfl))).mono ?_
          rintro e W2 ⟨rfl, hkk⟩
          have kk : KB F0 W1 W2 := KB.trans (by repeat (first | exact KB.refl _ _ | refine KB.alloc ?_ _)) hkk
          replace c2 := kk.cell (p := ⟨w.heap.size, 2, none⟩) (fun x => x) c2
          replace c3 := kk.cell (p := ⟨w.heap.size, 3, none⟩) (fun x => x) c3
          replace K := K.trans kk
          clear kk hkk
          go_wp2_with fail
          go_ret
          exact ⟨ret_eq (by rw [Hr.out]; rfl), K⟩

set_option maxRecDepth 100000 in
set_option maxHeartbeats 4000000 in
theorem asks_28 (at_ n : Int) (s : ByteArray) (la : Option Addr) (ll lc : Nat) (a : Option Addr) (l : List Nat) (cap : Nat) (w : World) (_hs : s.size ≤ 9223372036854775807) (hl : l.length ≤ 9223372036854775807) (ha : KindsAt w a l) (_hT : Tab w) (_hn1 : -9223372036854775808 ≤ n) (_hn2 : n ≤ 9223372036854775807) :
    Calls Tryd.prog 60 #[.agg #[.int .u8 28, .int .i64 at_, .int .i64 n, .string s, .slice la ll lc], .slice a l.length cap] w fun e w' => e = .returned (.bool (askB 28 n s l)) ∧ KB F0 w w' := by
  have Hr : Hid (askB 28 n s l = (justB l [.ex] && emptyB s && decide ((0 : Int) ≤ n) && decide (n ≤ (0 : Int)))) := Lib.hid rfl
  obtain ⟨B0, hB0⟩ : ∃ B0, B0 = (w.alloc (.cells #[.int .u8 28, .int .i64 at_, .int .i64 n, .string s, .slice la ll lc] 25)) := ⟨_, rfl⟩
  have K : KB F0 w B0 := by subst hB0; exact (KB.refl _ _).alloc _
  have c2 : B0.cell? ⟨w.heap.size, 2, none⟩ = some (.int .i64 n) := by subst hB0; exact new_cell _ _ _ 2
  have c3 : B0.cell? ⟨w.heap.size, 3, none⟩ = some (.string s) := by subst hB0; exact new_cell _ _ _ 3
  have HB0s : Hid (w.heap.size + 1 = B0.heap.size) := Lib.hid (by subst hB0; simp)
  have HB0 := Lib.hid hB0
  clear hB0
  have HJ := Lib.hid (fun W a2 cap2 (hk : KB F0 w W) (hc : ClsAt W a2 [.ex]) => justV a a2 l [.ex] cap cap2 W hl (by decide) (ha.kbF hk) hc)
  generalize justB l [.ex] = b0 at HJ Hr
  have tE : s.toList.isEmpty = emptyB s := rfl
  generalize emptyB s = bE at tE Hr
  obtain ⟨b1, hb1⟩ : ∃ b, decide ((0 : Int) ≤ n) = b := ⟨_, rfl⟩
  obtain ⟨b2, hb2⟩ : ∃ b, decide (n ≤ (0 : Int)) = b := ⟨_, rfl⟩
  rw [hb1, hb2] at Hr
  clear ha _hT
  cases b0
  · go_enter Tryd.func60, Tryd.ntmps60
    go_wp2_with fail
    rw [← HB0.out]
    try rw [HB0s.out]
    refine (HJ.out _ _ _ (K.trans (by repeat (first | exact KB.refl _ _ | refine KB.alloc ?_ _))) (clsat1 (W := B0) (show ClsV _ (.func (.func 70) #[] #[]) .ex from rfl))).mono ?_
    rintro e W1 ⟨rfl, hkk⟩
    have kk : KB F0 B0 W1 := KB.trans (by repeat (first | exact KB.refl _ _ | refine KB.alloc ?_ _)) hkk
    replace c2 := kk.cell (p := ⟨w.heap.size, 2, none⟩) (fun x => x) c2
    replace c3 := kk.cell (p := ⟨w.heap.size, 3, none⟩) (fun x => x) c3
    replace K := K.trans kk
    clear kk hkk
    go_wp2_with fail
    go_ret
    exact ⟨ret_eq (by rw [Hr.out]; rfl), K⟩
  · cases bE
    · go_enter Tryd.func60, Tryd.ntmps60
      go_wp2_with fail
      rw [← HB0.out]
      try rw [HB0s.out]
      refine (HJ.out _ _ _ (K.trans (by repeat (first | exact KB.refl _ _ | refine KB.alloc ?_ _))) (clsat1 (W := B0) (show ClsV _ (.func (.func 70) #[] #[]) .ex from rfl))).mono ?_
      rintro e W1 ⟨rfl, hkk⟩
      have kk : KB F0 B0 W1 := KB.trans (by repeat (first | exact KB.refl _ _ | refine KB.alloc ?_ _)) hkk
      replace c2 := kk.cell (p := ⟨w.heap.size, 2, none⟩) (fun x => x) c2
      replace c3 := kk.cell (p := ⟨w.heap.size, 3, none⟩) (fun x => x) c3
      replace K := K.trans kk
      clear kk hkk
      go_wp2_with fail
      go_ret
      exact ⟨ret_eq (by rw [Hr.out]; rfl), K⟩
    · cases b1
      · go_enter Tryd.func60, Tryd.ntmps60
        go_wp2_with fail
        rw [← HB0.out]
        try rw [HB0s.out]
        refine (HJ.out _ _ _ (K.trans (by repeat (first | exact KB.refl _ _ | refine KB.alloc ?_ _))) (clsat1 (W := B0) (show ClsV _ (.func (.func 70) #[] #[]) .ex from rfl))).mono ?_
        rintro e W1 ⟨rfl, hkk⟩
        have kk : KB F0 B0 W1 := KB.trans (by repeat (first | exact KB.refl _ _ | refine KB.alloc ?_ _)) hkk
        replace c2 := kk.cell (p := ⟨w.heap.size, 2, none⟩) (fun x => x) c2
        replace c3 := kk.cell (p := ⟨w.heap.size, 3, none⟩) (fun x => x) c3
        replace K := K.trans kk
        clear kk hkk
        go_wp2_with fail
        go_ret
        exact ⟨ret_eq (by rw [Hr.out]; rfl), K⟩

      · cases b2
        · go_enter Tryd.func60, Tryd.ntmps60
          go_wp2_with fail
          rw [← HB0.out]
          try rw [HB0s.out]
          refine (HJ.out _ _ _ (K.trans (by repeat (first | exact KB.refl _ _ | refine KB.alloc ?_ _))) (clsat1 (W := B0) (show ClsV _ (.func (.func 70) #[] #[]) .ex from rfl))).mono ?_
          rintro e W1 ⟨rfl, hkk⟩
          have kk : KB F0 B0 W1 := KB.trans (by repeat (first | exact KB.refl _ _ | refine KB.alloc ?_ _)) hkk
          replace c2 := kk.cell (p := ⟨w.heap.size, 2, none⟩) (fun x => x) c2
          replace c3 := kk.cell (p := ⟨w.heap.size, 3, none⟩) (fun x => x) c3
          replace K := K.trans kk
          clear kk hkk
          go_wp2_with fail
          go_ret
          exact ⟨ret_eq (by rw [Hr.out]; rfl), K⟩

        · go_enter Tryd.func60, Tryd.ntmps60
          go_wp2_with fail
          rw [← HB0.out]
          try rw [HB0s.out]
          refine (HJ.out _ _ _ (K.trans (by repeat (first | exact KB.refl _ _ | refine KB.alloc ?_ _))) (clsat1 (W := B0) (show ClsV _ (.func (.func 70) #[] #[]) .ex from rfl))).mono ?_
          rintro e W1 ⟨rfl, hkk⟩
          have kk : KB F0 B0 W1 := KB.trans (by repeat (first | exact KB.refl _ _ | refine KB.alloc ?_ _)) hkk
          replace c2 := kk.cell (p := ⟨w.heap.size, 2, none⟩) (fun x => x) c2
          replace c3 := kk.cell (p := ⟨w.heap.size, 3, none⟩) (fun x => x) c3
          replace K := K.trans kk
          clear kk hkk
          go_wp2_with fail
          go_ret
          exact ⟨ret_eq (by rw [Hr.out]; rfl), K⟩

set_option maxRecDepth 100000 in
set_option maxHeartbeats 4000000 in
theorem asks_29 (at_ n : Int) (s : ByteArray) (la : Option Addr) (ll lc : Nat) (a : Option Addr) (l : List Nat) (cap : Nat) (w : World) (_hs : s.size ≤ 9223372036854775807) (hl : l.length ≤ 9223372036854775807) (ha : KindsAt w a l) (_hT : Tab w) (_hn1 : -9223372036854775808 ≤ n) (_hn2 : n ≤ 9223372036854775807) :
    Calls Tryd.prog 60 #[.agg #[.int .u8 29, .int .i64 at_, .int .i64 n, .string s, .slice la ll lc], .slice a l.length cap] w fun e w' => e = .returned (.bool (askB 29 n s l)) ∧ KB F0 w w' := by
  have Hr : Hid (askB 29 n s l = (justB l [.ex] && emptyB s && decide ((0 : Int) ≤ n) && decide (n ≤ (1 : Int)))) := Lib.hid rfl
  obtain ⟨B0, hB0⟩ : ∃ B0, B0 = (w.alloc (.cells #[.int .u8 29, .int .i64 at_, .int .i64 n, .string s, .slice la ll lc] 25)) := ⟨_, rfl⟩
  have K : KB F0 w B0 := by subst hB0; exact (KB.refl _ _).alloc _
  have c2 : B0.cell? ⟨w.heap.size, 2, none⟩ = some (.int .i64 n) := by subst hB0; exact new_cell _ _ _ 2
  have c3 : B0.cell? ⟨w.heap.size, 3, none⟩ = some (.string s) := by subst hB0; exact new_cell _ _ _ 3
  have HB0s : Hid (w.heap.size + 1 = B0.heap.size) := Lib.hid (by subst hB0; simp)
  have HB0 := Lib.hid hB0
  clear hB0
  have HJ := Lib.hid (fun W a2 cap2 (hk : KB F0 w W) (hc : ClsAt W a2 [.ex]) => justV a a2 l [.ex] cap cap2 W hl (by decide) (ha.kbF hk) hc)
  generalize justB l [.ex] = b0 at HJ Hr
  have tE : s.toList.isEmpty = emptyB s := rfl
  generalize emptyB s = bE at tE Hr
  obtain ⟨b1, hb1⟩ : ∃ b, decide ((0 : Int) ≤ n) = b := ⟨_, rfl⟩
  obtain ⟨b2, hb2⟩ : ∃ b, decide (n ≤ (1 : Int)) = b := ⟨_, rfl⟩
  rw [hb1, hb2] at Hr
  clear ha _hT
  cases b0
  · go_enter Tryd.func60, Tryd.ntmps60
    go_wp2_with fail
    rw [← HB0.out]
    try rw [HB0s.out]
    refine (HJ.out _ _ _ (K.trans (by repeat (first | exact KB.refl _ _ | refine KB.alloc ?_ _))) (clsat1 (W := B0) (show ClsV _ (.func (.func 70) #[] #[]) .ex from rfl))).mono ?_
    rintro e W1 ⟨rfl, hkk⟩
    have kk : KB F0 B0 W1 := KB.trans (by repeat (first | exact KB.refl _ _ | refine KB.alloc ?_ _)) hkk
    replace c2 := kk.cell (p := ⟨w.heap.size, 2, none⟩) (fun x => x) c2
    replace c3 := kk.cell (p := ⟨w.heap.size, 3, none⟩) (fun x => x) c3
    replace K := K.trans kk
    clear kk hkk
    go_wp2_with fail
    go_ret
    exact ⟨ret_eq (by rw [Hr.out]; rfl), K⟩
  · cases bE
    · go_enter Tryd.func60, Tryd.ntmps60
      go_wp2_with fail
      rw [← HB0.out]
      try rw [HB0s.out]
      refine (HJ.out _ _ _ (K.trans (by repeat (first | exact KB.refl _ _ | refine KB.alloc ?_ _))) (clsat1 (W := B0) (show ClsV _ (.func (.func 70) #[] #[]) .ex from rfl))).mono ?_
      rintro e W1 ⟨rfl, hkk⟩
      have kk : KB F0 B0 W1 := KB.trans (by repeat (first | exact KB.refl _ _ | refine KB.alloc ?_ _)) hkk
      replace c2 := kk.cell (p := ⟨w.heap.size, 2, none⟩) (fun x => x) c2
      replace c3 := kk.cell (p := ⟨w.heap.size, 3, none⟩) (fun x => x) c3
      replace K := K.trans kk
      clear kk hkk
      go_wp2_with fail
      go_ret
      exact ⟨ret_eq (by rw [Hr.out]; rfl), K⟩
    · cases b1
      · go_enter Tryd.func60, Tryd.ntmps60
        go_wp2_with fail
        rw [← HB0.out]
        try rw [HB0s.out]
        refine (HJ.out _ _ _ (K.trans (by repeat (first | exact KB.refl _ _ | refine KB.alloc ?_ _))) (clsat1 (W := B0) (show ClsV _ (.func (.func 70) #[] #[]) .ex from rfl))).mono ?_
        rintro e W1 ⟨rfl, hkk⟩
        have kk : KB F0 B0 W1 := KB.trans (by repeat (first | exact KB.refl _ _ | refine KB.alloc ?_ _)) hkk
        replace c2 := kk.cell (p := ⟨w.heap.size, 2, none⟩) (fun x => x) c2
        replace c3 := kk.cell (p := ⟨w.heap.size, 3, none⟩) (fun x => x) c3
        replace K := K.trans kk
        clear kk hkk
        go_wp2_with fail
        go_ret
        exact ⟨ret_eq (by rw [Hr.out]; rfl), K⟩

      · cases b2
        · go_enter Tryd.func60, Tryd.ntmps60
          go_wp2_with fail
          rw [← HB0.out]
          try rw [HB0s.out]
          refine (HJ.out _ _ _ (K.trans (by repeat (first | exact KB.refl _ _ | refine KB.alloc ?_ _))) (clsat1 (W := B0) (show ClsV _ (.func (.func 70) #[] #[]) .ex from rfl))).mono ?_
          rintro e W1 ⟨rfl, hkk⟩
          have kk : KB F0 B0 W1 := KB.trans (by repeat (first | exact KB.refl _ _ | refine KB.alloc ?_ _)) hkk
          replace c2 := kk.cell (p := ⟨w.heap.size, 2, none⟩) (fun x => x) c2
          replace c3 := kk.cell (p := ⟨w.heap.size, 3, none⟩) (fun x => x) c3
          replace K := K.trans kk
          clear kk hkk
          go_wp2_with fail
          go_ret
          exact ⟨ret_eq (by rw [Hr.out]; rfl), K⟩

        · go_enter Tryd.func60, Tryd.ntmps60
          go_wp2_with fail
          rw [← HB0.out]
          try rw [HB0s.out]
          refine (HJ.out _ _ _ (K.trans (by repeat (first | exact KB.refl _ _ | refine KB.alloc ?_ _))) (clsat1 (W := B0) (show ClsV _ (.func (.func 70) #[] #[]) .ex from rfl))).mono ?_
          rintro e W1 ⟨rfl, hkk⟩
          have kk : KB F0 B0 W1 := KB.trans (by repeat (first | exact KB.refl _ _ | refine KB.alloc ?_ _)) hkk
          replace c2 := kk.cell (p := ⟨w.heap.size, 2, none⟩) (fun x => x) c2
          replace c3 := kk.cell (p := ⟨w.heap.size, 3, none⟩) (fun x => x) c3
          replace K := K.trans kk
          clear kk hkk
          go_wp2_with fail
          go_ret
          exact ⟨ret_eq (by rw [Hr.out]; rfl), K⟩

set_option maxRecDepth 100000 in
set_option maxHeartbeats 4000000 in
theorem asks_30 (at_ n : Int) (s : ByteArray) (la : Option Addr) (ll lc : Nat) (a : Option Addr) (l : List Nat) (cap : Nat) (w : World) (_hs : s.size ≤ 9223372036854775807) (hl : l.length ≤ 9223372036854775807) (ha : KindsAt w a l) (_hT : Tab w) (_hn1 : -9223372036854775808 ≤ n) (_hn2 : n ≤ 9223372036854775807) :
    Calls Tryd.prog 60 #[.agg #[.int .u8 30, .int .i64 at_, .int .i64 n, .string s, .slice la ll lc], .slice a l.length cap] w fun e w' => e = .returned (.bool (askB 30 n s l)) ∧ KB F0 w w' := by
  have Hr : Hid (askB 30 n s l = (justB l [.ex] && emptyB s && decide ((0 : Int) ≤ n) && decide (n ≤ (0 : Int)))) := Lib.hid rfl
  obtain ⟨B0, hB0⟩ : ∃ B0, B0 = (w.alloc (.cells #[.int .u8 30, .int .i64 at_, .int .i64 n, .string s, .slice la ll lc] 25)) := ⟨_, rfl⟩
  have K : KB F0 w B0 := by subst hB0; exact (KB.refl _ _).alloc _
  have c2 : B0.cell? ⟨w.heap.size, 2, none⟩ = some (.int .i64 n) := by subst hB0; exact new_cell _ _ _ 2
  have c3 : B0.cell? ⟨w.heap.size, 3, none⟩ = some (.string s) := by subst hB0; exact new_cell _ _ _ 3
  have HB0s : Hid (w.heap.size + 1 = B0.heap.size) := Lib.hid (by subst hB0; simp)
  have HB0 := Lib.hid hB0
  clear hB0
  have HJ := Lib.hid (fun W a2 cap2 (hk : KB F0 w W) (hc : ClsAt W a2 [.ex]) => justV a a2 l [.ex] cap cap2 W hl (by decide) (ha.kbF hk) hc)
  generalize justB l [.ex] = b0 at HJ Hr
  have tE : s.toList.isEmpty = emptyB s := rfl
  generalize emptyB s = bE at tE Hr
  obtain ⟨b1, hb1⟩ : ∃ b, decide ((0 : Int) ≤ n) = b := ⟨_, rfl⟩
  obtain ⟨b2, hb2⟩ : ∃ b, decide (n ≤ (0 : Int)) = b := ⟨_, rfl⟩
  rw [hb1, hb2] at Hr
  clear ha _hT
  cases b0
  · go_enter Tryd.func60, Tryd.ntmps60
    go_wp2_with fail
    rw [← HB0.out]
    try rw [HB0s.out]
    refine (HJ.out _ _ _ (K.trans (by repeat (first | exact KB.refl _ _ | refine KB.alloc ?_ _))) (clsat1 (W := B0) (show ClsV _ (.func (.func 70) #[] #[]) .ex from rfl))).mono ?_
    rintro e W1 ⟨rfl, hkk⟩
    have kk : KB F0 B0 W1 := KB.trans (by repeat (first | exact KB.refl _ _ | refine KB.alloc ?_ _)) hkk
    replace c2 := kk.cell (p := ⟨w.heap.size, 2, none⟩) (fun x => x) c2
    replace c3 := kk.cell (p := ⟨w.heap.size, 3, none⟩) (fun x => x) c3
    replace K := K.trans kk
    clear kk hkk
    go_wp2_with fail
    go_ret
    exact ⟨ret_eq (by rw [Hr.out]; rfl), K⟩
  · cases bE
    · go_enter Tryd.func60, Tryd.ntmps60
      go_wp2_with fail
      rw [← HB0.out]
      try rw [HB0s.out]
      refine (HJ.out _ _ _ (K.trans (by repeat (first | exact KB.refl _ _ | refine KB.alloc ?_ _))) (clsat1 (W := B0) (show ClsV _ (.func (.func 70) #[] #[]) .ex from rfl))).mono ?_
      rintro e W1 ⟨rfl, hkk⟩
      have kk : KB F0 B0 W1 := KB.trans (by repeat (first | exact KB.refl _ _ | refine KB.alloc ?_ _)) hkk
      replace c2 := kk.cell (p := ⟨w.heap.size, 2, none⟩) (fun x => x) c2
      replace c3 := kk.cell (p := ⟨w.heap.size, 3, none⟩) (fun x => x) c3
      replace K := K.trans kk
      clear kk hkk
      go_wp2_with fail
      go_ret
      exact ⟨ret_eq (by rw [Hr.out]; rfl), K⟩
    · cases b1
      · go_enter Tryd.func60, Tryd.ntmps60
        go_wp2_with fail
        rw [← HB0.out]
        try rw [HB0s.out]
        refine (HJ.out _ _ _ (K.trans (by repeat (first | exact KB.refl _ _ | refine KB.alloc ?_ _))) (clsat1 (W := B0) (show ClsV _ (.func (.func 70) #[] #[]) .ex from rfl))).mono ?_
        rintro e W1 ⟨rfl, hkk⟩
        have kk : KB F0 B0 W1 := KB.trans (by repeat (first | exact KB.refl _ _ | refine KB.alloc ?_ _)) hkk
        replace c2 := kk.cell (p := ⟨w.heap.size, 2, none⟩) (fun x => x) c2
        replace c3 := kk.cell (p := ⟨w.heap.size, 3, none⟩) (fun x => x) c3
        replace K := K.trans kk
        clear kk hkk
        go_wp2_with fail
        go_ret
        exact ⟨ret_eq (by rw [Hr.out]; rfl), K⟩

      · cases b2
        · go_enter Tryd.func60, Tryd.ntmps60
          go_wp2_with fail
          rw [← HB0.out]
          try rw [HB0s.out]
          refine (HJ.out _ _ _ (K.trans (by repeat (first | exact KB.refl _ _ | refine KB.alloc ?_ _))) (clsat1 (W := B0) (show ClsV _ (.func (.func 70) #[] #[]) .ex from rfl))).mono ?_
          rintro e W1 ⟨rfl, hkk⟩
          have kk : KB F0 B0 W1 := KB.trans (by repeat (first | exact KB.refl _ _ | refine KB.alloc ?_ _)) hkk
          replace c2 := kk.cell (p := ⟨w.heap.size, 2, none⟩) (fun x => x) c2
          replace c3 := kk.cell (p := ⟨w.heap.size, 3, none⟩) (fun x => x) c3
          replace K := K.trans kk
          clear kk hkk
          go_wp2_with fail
          go_ret
          exact ⟨ret_eq (by rw [Hr.out]; rfl), K⟩

        · go_enter Tryd.func60, Tryd.ntmps60
          go_wp2_with fail
          rw [← HB0.out]
          try rw [HB0s.out]
          refine (HJ.out _ _ _ (K.trans (by repeat (first | exact KB.refl _ _ | refine KB.alloc ?_ _))) (clsat1 (W := B0) (show ClsV _ (.func (.func 70) #[] #[]) .ex from rfl))).mono ?_
          rintro e W1 ⟨rfl, hkk⟩
          have kk : KB F0 B0 W1 := KB.trans (by repeat (first | exact KB.refl _ _ | refine KB.alloc ?_ _)) hkk
          replace c2 := kk.cell (p := ⟨w.heap.size, 2, none⟩) (fun x => x) c2
          replace c3 := kk.cell (p := ⟨w.heap.size, 3, none⟩) (fun x => x) c3
          replace K := K.trans kk
          clear kk hkk
          go_wp2_with fail
          go_ret
          exact ⟨ret_eq (by rw [Hr.out]; rfl), K⟩

set_option maxRecDepth 100000 in
set_option maxHeartbeats 4000000 in
theorem asks_31 (at_ n : Int) (s : ByteArray) (la : Option Addr) (ll lc : Nat) (a : Option Addr) (l : List Nat) (cap : Nat) (w : World) (_hs : s.size ≤ 9223372036854775807) (hl : l.length ≤ 9223372036854775807) (ha : KindsAt w a l) (_hT : Tab w) (_hn1 : -9223372036854775808 ≤ n) (_hn2 : n ≤ 9223372036854775807) :
    Calls Tryd.prog 60 #[.agg #[.int .u8 31, .int .i64 at_, .int .i64 n, .string s, .slice la ll lc], .slice a l.length cap] w fun e w' => e = .returned (.bool (askB 31 n s l)) ∧ KB F0 w w' := by
  have Hr : Hid (askB 31 n s l = (justB l [.ex] && emptyB s && decide ((0 : Int) ≤ n) && decide (n ≤ (0 : Int)))) := Lib.hid rfl
  obtain ⟨B0, hB0⟩ : ∃ B0, B0 = (w.alloc (.cells #[.int .u8 31, .int .i64 at_, .int .i64 n, .string s, .slice la ll lc] 25)) := ⟨_, rfl⟩
  have K : KB F0 w B0 := by subst hB0; exact (KB.refl _ _).alloc _
  have c2 : B0.cell? ⟨w.heap.size, 2, none⟩ = some (.int .i64 n) := by subst hB0; exact new_cell _ _ _ 2
  have c3 : B0.cell? ⟨w.heap.size, 3, none⟩ = some (.string s) := by subst hB0; exact new_cell _ _ _ 3
  have HB0s : Hid (w.heap.size + 1 = B0.heap.size) := Lib.hid (by subst hB0; simp)
  have HB0 := Lib.hid hB0
  clear hB0
  have HJ := Lib.hid (fun W a2 cap2 (hk : KB F0 w W) (hc : ClsAt W a2 [.ex]) => justV a a2 l [.ex] cap cap2 W hl (by decide) (ha.kbF hk) hc)
  generalize justB l [.ex] = b0 at HJ Hr
  have tE : s.toList.isEmpty = emptyB s := rfl
  generalize emptyB s = bE at tE Hr
  obtain ⟨b1, hb1⟩ : ∃ b, decide ((0 : Int) ≤ n) = b := ⟨_, rfl⟩
  obtain ⟨b2, hb2⟩ : ∃ b, decide (n ≤ (0 : Int)) = b := ⟨_, rfl⟩
  rw [hb1, hb2] at Hr
  clear ha _hT
  cases b0
  · go_enter Tryd.func60, Tryd.ntmps60
    go_wp2_with fail
    rw [← HB0.out]
    try rw [HB0s.out]
    refine (HJ.out _ _ _ (K.trans (by repeat (first | exact KB.refl _ _ | refine KB.alloc ?_ _))) (clsat1 (W := B0) (show ClsV _ (.func (.func 70) #[] #[]) .ex from rfl))).mono ?_
    rintro e W1 ⟨rfl, hkk⟩
    have kk : KB F0 B0 W1 := KB.trans (by repeat (first | exact KB.refl _ _ | refine KB.alloc ?_ _)) hkk
    replace c2 := kk.cell (p := ⟨w.heap.size, 2, none⟩) (fun x => x) c2
    replace c3 := kk.cell (p := ⟨w.heap.size, 3, none⟩) (fun x => x) c3
    replace K := K.trans kk
    clear kk hkk
    go_wp2_with fail
    go_ret
    exact ⟨ret_eq (by rw [Hr.out]; rfl), K⟩
  · cases bE
    · go_enter Tryd.func60, Tryd.ntmps60
      go_wp2_with fail
      rw [← HB0.out]
      try rw [HB0s.out]
      refine (HJ.out _ _ _ (K.trans (by repeat (first | exact KB.refl _ _ | refine KB.alloc ?_ _))) (clsat1 (W := B0) (show ClsV _ (.func (.func 70) #[] #[]) .ex from rfl))).mono ?_
      rintro e W1 ⟨rfl, hkk⟩
      have kk : KB F0 B0 W1 := KB.trans (by repeat (first | exact KB.refl _ _ | refine KB.alloc ?_ _)) hkk
      replace c2 := kk.cell (p := ⟨w.heap.size, 2, none⟩) (fun x => x) c2
      replace c3 := kk.cell (p := ⟨w.heap.size, 3, none⟩) (fun x => x) c3
      replace K := K.trans kk
      clear kk hkk
      go_wp2_with fail
      go_ret
      exact ⟨ret_eq (by rw [Hr.out]; rfl), K⟩
    · cases b1
      · go_enter Tryd.func60, Tryd.ntmps60
        go_wp2_with fail
        rw [← HB0.out]
        try rw [HB0s.out]
        refine (HJ.out _ _ _ (K.trans (by repeat (first | exact KB.refl _ _ | refine KB.alloc ?_ _))) (clsat1 (W := B0) (show ClsV _ (.func (.func 70) #[] #[]) .ex from rfl))).mono ?_
        rintro e W1 ⟨rfl, hkk⟩
        have kk : KB F0 B0 W1 := KB.trans (by repeat (first | exact KB.refl _ _ | refine KB.alloc ?_ _)) hkk
        replace c2 := kk.cell (p := ⟨w.heap.size, 2, none⟩) (fun x => x) c2
        replace c3 := kk.cell (p := ⟨w.heap.size, 3, none⟩) (fun x => x) c3
        replace K := K.trans kk
        clear kk hkk
        go_wp2_with fail
        go_ret
        exact ⟨ret_eq (by rw [Hr.out]; rfl), K⟩

      · cases b2
        · go_enter Tryd.func60, Tryd.ntmps60
          go_wp2_with fail
          rw [← HB0.out]
          try rw [HB0s.out]
          refine (HJ.out _ _ _ (K.trans (by repeat (first | exact KB.refl _ _ | refine KB.alloc ?_ _))) (clsat1 (W := B0) (show ClsV _ (.func (.func 70) #[] #[]) .ex from rfl))).mono ?_
          rintro e W1 ⟨rfl, hkk⟩
          have kk : KB F0 B0 W1 := KB.trans (by repeat (first | exact KB.refl _ _ | refine KB.alloc ?_ _)) hkk
          replace c2 := kk.cell (p := ⟨w.heap.size, 2, none⟩) (fun x => x) c2
          replace c3 := kk.cell (p := ⟨w.heap.size, 3, none⟩) (fun x => x) c3
          replace K := K.trans kk
          clear kk hkk
          go_wp2_with fail
          go_ret
          exact ⟨ret_eq (by rw [Hr.out]; rfl), K⟩

        · go_enter Tryd.func60, Tryd.ntmps60
          go_wp2_with fail
          rw [← HB0.out]
          try rw [HB0s.out]
          refine (HJ.out _ _ _ (K.trans (by repeat (first | exact KB.refl _ _ | refine KB.alloc ?_ _))) (clsat1 (W := B0) (show ClsV _ (.func (.func 70) #[] #[]) .ex from rfl))).mono ?_
          rintro e W1 ⟨rfl, hkk⟩
          have kk : KB F0 B0 W1 := KB.trans (by repeat (first | exact KB.refl _ _ | refine KB.alloc ?_ _)) hkk
          replace c2 := kk.cell (p := ⟨w.heap.size, 2, none⟩) (fun x => x) c2
          replace c3 := kk.cell (p := ⟨w.heap.size, 3, none⟩) (fun x => x) c3
          replace K := K.trans kk
          clear kk hkk
          go_wp2_with fail
          go_ret
          exact ⟨ret_eq (by rw [Hr.out]; rfl), K⟩

set_option maxRecDepth 100000 in
set_option maxHeartbeats 4000000 in
theorem asks_33 (at_ n : Int) (s : ByteArray) (la : Option Addr) (ll lc : Nat) (a : Option Addr) (l : List Nat) (cap : Nat) (w : World) (hs : s.size ≤ 9223372036854775807) (hl : l.length ≤ 9223372036854775807) (ha : KindsAt w a l) (hT : Tab w) (_hn1 : -9223372036854775808 ≤ n) (_hn2 : n ≤ 9223372036854775807) :
    Calls Tryd.prog 60 #[.agg #[.int .u8 33, .int .i64 at_, .int .i64 n, .string s, .slice la ll lc], .slice a l.length cap] w fun e w' => e = .returned (.bool (askB 33 n s l)) ∧ KB F0 w w' := by
  have Hr : Hid (askB 33 n s l = (askedB l 0 8 (.ex) && nameB s && decide ((0 : Int) ≤ n) && decide (n ≤ (0 : Int)))) := Lib.hid rfl
  obtain ⟨B0, hB0⟩ : ∃ B0, B0 = (w.alloc (.cells #[.int .u8 33, .int .i64 at_, .int .i64 n, .string s, .slice la ll lc] 25)) := ⟨_, rfl⟩
  have K : KB F0 w B0 := by subst hB0; exact (KB.refl _ _).alloc _
  have c2 : B0.cell? ⟨w.heap.size, 2, none⟩ = some (.int .i64 n) := by subst hB0; exact new_cell _ _ _ 2
  have c3 : B0.cell? ⟨w.heap.size, 3, none⟩ = some (.string s) := by subst hB0; exact new_cell _ _ _ 3
  have HB0s : Hid (w.heap.size + 1 = B0.heap.size) := Lib.hid (by subst hB0; simp)
  have HB0 := Lib.hid hB0
  clear hB0
  have HN := Lib.hid (fun W (hk : KB F0 w W) => name_any s W hs (hT.kb hk))
  have HA := Lib.hid (fun W v (hk : KB F0 w W) (hv : ClsV W v (.ex)) => asked_any a l cap 0 8 v (.ex) W hl (ha.kbF hk) hv)
  generalize askedB l 0 8 (.ex) = b0 at HA Hr
  generalize nameB s = bN at HN Hr
  obtain ⟨b1, hb1⟩ : ∃ b, decide ((0 : Int) ≤ n) = b := ⟨_, rfl⟩
  obtain ⟨b2, hb2⟩ : ∃ b, decide (n ≤ (0 : Int)) = b := ⟨_, rfl⟩
  rw [hb1, hb2] at Hr
  clear ha hT
  cases b0
  · go_enter Tryd.func60, Tryd.ntmps60
    go_wp2_with fail
    rw [← HB0.out]
    try rw [HB0s.out]
    refine (HN.out _ (K.trans (by repeat (first | exact KB.refl _ _ | refine KB.alloc ?_ _)))).mono ?_
    rintro e W1 ⟨rfl, hkk⟩
    have kk : KB F0 B0 W1 := KB.trans (by repeat (first | exact KB.refl _ _ | refine KB.alloc ?_ _)) hkk
    replace c2 := kk.cell (p := ⟨w.heap.size, 2, none⟩) (fun x => x) c2
    replace c3 := kk.cell (p := ⟨w.heap.size, 3, none⟩) (fun x => x) c3
    replace K := K.trans kk
    clear kk hkk
    go_wp2_with fail
    refine (HA.out _ _ (K.trans (by repeat (first | exact KB.refl _ _ | refine KB.alloc ?_ _))) (show ClsV _ (.func (.func 70) #[] #[]) .ex from rfl)).mono ?_
    rintro e W2 ⟨rfl, hkk⟩
    have kk : KB F0 W1 W2 := KB.trans (by repeat (first | exact KB.refl _ _ | refine KB.alloc ?_ _)) hkk
    replace c2 := kk.cell (p := ⟨w.heap.size, 2, none⟩) (fun x => x) c2
    replace c3 := kk.cell (p := ⟨w.heap.size, 3, none⟩) (fun x => x) c3
    replace K := K.trans kk
    clear kk hkk
    go_wp2_with fail
    go_ret
    exact ⟨ret_eq (by rw [Hr.out]; rfl), K⟩
  · cases bN
    · go_enter Tryd.func60, Tryd.ntmps60
      go_wp2_with fail
      rw [← HB0.out]
      try rw [HB0s.out]
      refine (HN.out _ (K.trans (by repeat (first | exact KB.refl _ _ | refine KB.alloc ?_ _)))).mono ?_
      rintro e W1 ⟨rfl, hkk⟩
      have kk : KB F0 B0 W1 := KB.trans (by repeat (first | exact KB.refl _ _ | refine KB.alloc ?_ _)) hkk
      replace c2 := kk.cell (p := ⟨w.heap.size, 2, none⟩) (fun x => x) c2
      replace c3 := kk.cell (p := ⟨w.heap.size, 3, none⟩) (fun x => x) c3
      replace K := K.trans kk
      clear kk hkk
      go_wp2_with fail
      refine (HA.out _ _ (K.trans (by repeat (first | exact KB.refl _ _ | refine KB.alloc ?_ _))) (show ClsV _ (.func (.func 70) #[] #[]) .ex from rfl)).mono ?_
      rintro e W2 ⟨rfl, hkk⟩
      have kk : KB F0 W1 W2 := KB.trans (by repeat (first | exact KB.refl _ _ | refine KB.alloc ?_ _)) hkk
      replace c2 := kk.cell (p := ⟨w.heap.size, 2, none⟩) (fun x => x) c2
      replace c3 := kk.cell (p := ⟨w.heap.size, 3, none⟩) (fun x => x) c3
      replace K := K.trans kk
      clear kk hkk
      go_wp2_with fail
      go_ret
      exact ⟨ret_eq (by rw [Hr.out]; rfl), K⟩
    · cases b1
      · go_enter Tryd.func60, Tryd.ntmps60
        go_wp2_with fail
        rw [← HB0.out]
        try rw [HB0s.out]
        refine (HN.out _ (K.trans (by repeat (first | exact KB.refl _ _ | refine KB.alloc ?_ _)))).mono ?_
        rintro e W1 ⟨rfl, hkk⟩
        have kk : KB F0 B0 W1 := KB.trans (by repeat (first | exact KB.refl _ _ | refine KB.alloc ?_ _)) hkk
        replace c2 := kk.cell (p := ⟨w.heap.size, 2, none⟩) (fun x => x) c2
        replace c3 := kk.cell (p := ⟨w.heap.size, 3, none⟩) (fun x => x) c3
        replace K := K.trans kk
        clear kk hkk
        go_wp2_with fail
        refine (HA.out _ _ (K.trans (by repeat (first | exact KB.refl _ _ | refine KB.alloc ?_ _))) (show ClsV _ (.func (.func 70) #[] #[]) .ex from rfl)).mono ?_
        rintro e W2 ⟨rfl, hkk⟩
        have kk : KB F0 W1 W2 := KB.trans (by repeat (first | exact KB.refl _ _ | refine KB.alloc ?_ _)) hkk
        replace c2 := kk.cell (p := ⟨w.heap.size, 2, none⟩) (fun x => x) c2
        replace c3 := kk.cell (p := ⟨w.heap.size, 3, none⟩) (fun x => x) c3
        replace K := K.trans kk
        clear kk hkk
        go_wp2_with fail
        go_ret
        exact ⟨ret_eq (by rw [Hr.out]; rfl), K⟩

      · cases b2
        · go_enter Tryd.func60, Tryd.ntmps60
          go_wp2_with fail
          rw [← HB0.out]
          try rw [HB0s.out]
          refine (HN.out _ (K.trans (by repeat (first | exact KB.refl _ _ | refine KB.alloc ?_ _)))).mono ?_
          rintro e W1 ⟨rfl, hkk⟩
          have kk : KB F0 B0 W1 := KB.trans (by repeat (first | exact KB.refl _ _ | refine KB.alloc ?_ _)) hkk
          replace c2 := kk.cell (p := ⟨w.heap.size, 2, none⟩) (fun x => x) c2
          replace c3 := kk.cell (p := ⟨w.heap.size, 3, none⟩) (fun x => x) c3
          replace K := K.trans kk
          clear kk hkk
          go_wp2_with fail
          refine (HA.out _ _ (K.trans (by repeat (first | exact KB.refl _ _ | refine KB.alloc ?_ _))) (show ClsV _ (.func (.func 70) #[] #[]) .ex from rfl)).mono ?_
          rintro e W2 ⟨rfl, hkk⟩
          have kk : KB F0 W1 W2 := KB.trans (by repeat (first | exact KB.refl _ _ | refine KB.alloc ?_ _)) hkk
          replace c2 := kk.cell (p := ⟨w.heap.size, 2, none⟩) (fun x => x) c2
          replace c3 := kk.cell (p := ⟨w.heap.size, 3, none⟩) (fun x => x) c3
          replace K := K.trans kk
          clear kk hkk
          go_wp2_with fail
          go_ret
          exact ⟨ret_eq (by rw [Hr.out]; rfl), K⟩

        · go_enter Tryd.func60, Tryd.ntmps60
          go_wp2_with fail
          rw [← HB0.out]
          try rw [HB0s.out]
          refine (HN.out _ (K.trans (by repeat (first | exact KB.refl _ _ | refine KB.alloc ?_ _)))).mono ?_
          rintro e W1 ⟨rfl, hkk⟩
          have kk : KB F0 B0 W1 := KB.trans (by repeat (first | exact KB.refl _ _ | refine KB.alloc ?_ _)) hkk
          replace c2 := kk.cell (p := ⟨w.heap.size, 2, none⟩) (fun x => x) c2
          replace c3 := kk.cell (p := ⟨w.heap.size, 3, none⟩) (fun x => x) c3
          replace K := K.trans kk
          clear kk hkk
          go_wp2_with fail
          refine (HA.out _ _ (K.trans (by repeat (first | exact KB.refl _ _ | refine KB.alloc ?_ _))) (show ClsV _ (.func (.func 70) #[] #[]) .ex from rfl)).mono ?_
          rintro e W2 ⟨rfl, hkk⟩
          have kk : KB F0 W1 W2 := KB.trans (by repeat (first | exact KB.refl _ _ | refine KB.alloc ?_ _)) hkk
          replace c2 := kk.cell (p := ⟨w.heap.size, 2, none⟩) (fun x => x) c2
          replace c3 := kk.cell (p := ⟨w.heap.size, 3, none⟩) (fun x => x) c3
          replace K := K.trans kk
          clear kk hkk
          go_wp2_with fail
          go_ret
          exact ⟨ret_eq (by rw [Hr.out]; rfl), K⟩

end Go.Proofs.YtjefoojkgocinaaDoor

namespace Go.Proofs.YtjefoojkgocinaaDoor
open Go.RowKit
theorem ask_big (n : Int) (s : ByteArray) (l : List Nat) : ∀ {k : Nat}, 38 ≤ k → askR k n s l = (false, emptyB s, 0, 0)
  | _ + 38, _ => rfl
set_option maxRecDepth 100000 in
set_option maxHeartbeats 4000000 in
theorem asks_34 (at_ n : Int) (s : ByteArray) (la : Option Addr) (ll lc : Nat) (a : Option Addr) (l : List Nat) (cap : Nat) (w : World) (hs : s.size ≤ 9223372036854775807) (hl : l.length ≤ 9223372036854775807) (ha : KindsAt w a l) (_hT : Tab w) (_hn1 : -9223372036854775808 ≤ n) (_hn2 : n ≤ 9223372036854775807) :
    Calls Tryd.prog 60 #[.agg #[.int .u8 34, .int .i64 at_, .int .i64 n, .string s, .slice la ll lc], .slice a l.length cap] w fun e w' => e = .returned (.bool (askB 34 n s l)) ∧ KB F0 w w' := by
  have Hr : Hid (askB 34 n s l = (askedB l 1 8 (.kd [35]) && typeNameB s && decide ((0 : Int) ≤ n) && decide (n ≤ (0 : Int)))) := Lib.hid rfl
  obtain ⟨B0, hB0⟩ : ∃ B0, B0 = (w.alloc (.cells #[.int .u8 34, .int .i64 at_, .int .i64 n, .string s, .slice la ll lc] 25)) := ⟨_, rfl⟩
  have K : KB F0 w B0 := by subst hB0; exact (KB.refl _ _).alloc _
  have c2 : B0.cell? ⟨w.heap.size, 2, none⟩ = some (.int .i64 n) := by subst hB0; exact new_cell _ _ _ 2
  have c3 : B0.cell? ⟨w.heap.size, 3, none⟩ = some (.string s) := by subst hB0; exact new_cell _ _ _ 3
  have HB0s : Hid (w.heap.size + 1 = B0.heap.size) := Lib.hid (by subst hB0; simp)
  have HB0 := Lib.hid hB0
  clear hB0
  have HT := Lib.hid (fun W (_ : KB F0 w W) => typeNameV s W hs)
  have HA := Lib.hid (fun W v (hk : KB F0 w W) (hv : ClsV W v (.kd [35])) => asked_any a l cap 1 8 v (.kd [35]) W hl (ha.kbF hk) hv)
  generalize askedB l 1 8 (.kd [35]) = b0 at HA Hr
  generalize typeNameB s = bN at HT Hr
  obtain ⟨b1, hb1⟩ : ∃ b, decide ((0 : Int) ≤ n) = b := ⟨_, rfl⟩
  obtain ⟨b2, hb2⟩ : ∃ b, decide (n ≤ (0 : Int)) = b := ⟨_, rfl⟩
  rw [hb1, hb2] at Hr
  clear ha _hT
  cases b0
  · go_enter Tryd.func60, Tryd.ntmps60
    go_wp2_with fail
    rw [← HB0.out]
    try rw [HB0s.out]
    refine (HT.out _ (K.trans (by repeat (first | exact KB.refl _ _ | refine KB.alloc ?_ _)))).mono ?_
    rintro e W1 ⟨rfl, hkk⟩
    have kk : KB F0 B0 W1 := KB.trans (by repeat (first | exact KB.refl _ _ | refine KB.alloc ?_ _)) hkk
    replace c2 := kk.cell (p := ⟨w.heap.size, 2, none⟩) (fun x => x) c2
    replace c3 := kk.cell (p := ⟨w.heap.size, 3, none⟩) (fun x => x) c3
    replace K := K.trans kk
    clear kk hkk
    go_wp2_with fail
    refine (kindCall (ks := [35]) _ (by decide) (alloc_new W1 _)).mono ?_
    rintro e W2 ⟨kb2, rfl, hc0, hkk⟩
    have kk : KB F0 W1 W2 := KB.trans (by repeat (first | exact KB.refl _ _ | refine KB.alloc ?_ _)) hkk
    replace c2 := kk.cell (p := ⟨w.heap.size, 2, none⟩) (fun x => x) c2
    replace c3 := kk.cell (p := ⟨w.heap.size, 3, none⟩) (fun x => x) c3
    replace K := K.trans kk
    clear kk hkk
    go_wp2_with fail
    refine (HA.out _ _ (K.trans (by repeat (first | exact KB.refl _ _ | refine KB.alloc ?_ _))) hc0).mono ?_
    rintro e W3 ⟨rfl, hkk⟩
    have kk : KB F0 W2 W3 := KB.trans (by repeat (first | exact KB.refl _ _ | refine KB.alloc ?_ _)) hkk
    replace c2 := kk.cell (p := ⟨w.heap.size, 2, none⟩) (fun x => x) c2
    replace c3 := kk.cell (p := ⟨w.heap.size, 3, none⟩) (fun x => x) c3
    replace K := K.trans kk
    clear kk hkk
    go_wp2_with fail
    go_ret
    exact ⟨ret_eq (by rw [Hr.out]; rfl), K⟩
  · cases bN
    · go_enter Tryd.func60, Tryd.ntmps60
      go_wp2_with fail
      rw [← HB0.out]
      try rw [HB0s.out]
      refine (HT.out _ (K.trans (by repeat (first | exact KB.refl _ _ | refine KB.alloc ?_ _)))).mono ?_
      rintro e W1 ⟨rfl, hkk⟩
      have kk : KB F0 B0 W1 := KB.trans (by repeat (first | exact KB.refl _ _ | refine KB.alloc ?_ _)) hkk
      replace c2 := kk.cell (p := ⟨w.heap.size, 2, none⟩) (fun x => x) c2
      replace c3 := kk.cell (p := ⟨w.heap.size, 3, none⟩) (fun x => x) c3
      replace K := K.trans kk
      clear kk hkk
      go_wp2_with fail
      refine (kindCall (ks := [35]) _ (by decide) (alloc_new W1 _)).mono ?_
      rintro e W2 ⟨kb2, rfl, hc0, hkk⟩
      have kk : KB F0 W1 W2 := KB.trans (by repeat (first | exact KB.refl _ _ | refine KB.alloc ?_ _)) hkk
      replace c2 := kk.cell (p := ⟨w.heap.size, 2, none⟩) (fun x => x) c2
      replace c3 := kk.cell (p := ⟨w.heap.size, 3, none⟩) (fun x => x) c3
      replace K := K.trans kk
      clear kk hkk
      go_wp2_with fail
      refine (HA.out _ _ (K.trans (by repeat (first | exact KB.refl _ _ | refine KB.alloc ?_ _))) hc0).mono ?_
      rintro e W3 ⟨rfl, hkk⟩
      have kk : KB F0 W2 W3 := KB.trans (by repeat (first | exact KB.refl _ _ | refine KB.alloc ?_ _)) hkk
      replace c2 := kk.cell (p := ⟨w.heap.size, 2, none⟩) (fun x => x) c2
      replace c3 := kk.cell (p := ⟨w.heap.size, 3, none⟩) (fun x => x) c3
      replace K := K.trans kk
      clear kk hkk
      go_wp2_with fail
      go_ret
      exact ⟨ret_eq (by rw [Hr.out]; rfl), K⟩
    · cases b1
      · go_enter Tryd.func60, Tryd.ntmps60
        go_wp2_with fail
        rw [← HB0.out]
        try rw [HB0s.out]
        refine (HT.out _ (K.trans (by repeat (first | exact KB.refl _ _ | refine KB.alloc ?_ _)))).mono ?_
        rintro e W1 ⟨rfl, hkk⟩
        have kk : KB F0 B0 W1 := KB.trans (by repeat (first | exact KB.refl _ _ | refine KB.alloc ?_ _)) hkk
        replace c2 := kk.cell (p := ⟨w.heap.size, 2, none⟩) (fun x => x) c2
        replace c3 := kk.cell (p := ⟨w.heap.size, 3, none⟩) (fun x => x) c3
        replace K := K.trans kk
        clear kk hkk
        go_wp2_with fail
        refine (kindCall (ks := [35]) _ (by decide) (alloc_new W1 _)).mono ?_
        rintro e W2 ⟨kb2, rfl, hc0, hkk⟩
        have kk : KB F0 W1 W2 := KB.trans (by repeat (first | exact KB.refl _ _ | refine KB.alloc ?_ _)) hkk
        replace c2 := kk.cell (p := ⟨w.heap.size, 2, none⟩) (fun x => x) c2
        replace c3 := kk.cell (p := ⟨w.heap.size, 3, none⟩) (fun x => x) c3
        replace K := K.trans kk
        clear kk hkk
        go_wp2_with fail
        refine (HA.out _ _ (K.trans (by repeat (first | exact KB.refl _ _ | refine KB.alloc ?_ _))) hc0).mono ?_
        rintro e W3 ⟨rfl, hkk⟩
        have kk : KB F0 W2 W3 := KB.trans (by repeat (first | exact KB.refl _ _ | refine KB.alloc ?_ _)) hkk
        replace c2 := kk.cell (p := ⟨w.heap.size, 2, none⟩) (fun x => x) c2
        replace c3 := kk.cell (p := ⟨w.heap.size, 3, none⟩) (fun x => x) c3
        replace K := K.trans kk
        clear kk hkk
        go_wp2_with fail
        go_ret
        exact ⟨ret_eq (by rw [Hr.out]; rfl), K⟩

      · cases b2
        · go_enter Tryd.func60, Tryd.ntmps60
          go_wp2_with fail
          rw [← HB0.out]
          try rw [HB0s.out]
          refine (HT.out _ (K.trans (by repeat (first | exact KB.refl _ _ | refine KB.alloc ?_ _)))).mono ?_
          rintro e W1 ⟨rfl, hkk⟩
          have kk : KB F0 B0 W1 := KB.trans (by repeat (first | exact KB.refl _ _ | refine KB.alloc ?_ _)) hkk
          replace c2 := kk.cell (p := ⟨w.heap.size, 2, none⟩) (fun x => x) c2
          replace c3 := kk.cell (p := ⟨w.heap.size, 3, none⟩) (fun x => x) c3
          replace K := K.trans kk
          clear kk hkk
          go_wp2_with fail
          refine (kindCall (ks := [35]) _ (by decide) (alloc_new W1 _)).mono ?_
          rintro e W2 ⟨kb2, rfl, hc0, hkk⟩
          have kk : KB F0 W1 W2 := KB.trans (by repeat (first | exact KB.refl _ _ | refine KB.alloc ?_ _)) hkk
          replace c2 := kk.cell (p := ⟨w.heap.size, 2, none⟩) (fun x => x) c2
          replace c3 := kk.cell (p := ⟨w.heap.size, 3, none⟩) (fun x => x) c3
          replace K := K.trans kk
          clear kk hkk
          go_wp2_with fail
          refine (HA.out _ _ (K.trans (by repeat (first | exact KB.refl _ _ | refine KB.alloc ?_ _))) hc0).mono ?_
          rintro e W3 ⟨rfl, hkk⟩
          have kk : KB F0 W2 W3 := KB.trans (by repeat (first | exact KB.refl _ _ | refine KB.alloc ?_ _)) hkk
          replace c2 := kk.cell (p := ⟨w.heap.size, 2, none⟩) (fun x => x) c2
          replace c3 := kk.cell (p := ⟨w.heap.size, 3, none⟩) (fun x => x) c3
          replace K := K.trans kk
          clear kk hkk
          go_wp2_with fail
          go_ret
          exact ⟨ret_eq (by rw [Hr.out]; rfl), K⟩

        · go_enter Tryd.func60, Tryd.ntmps60
          go_wp2_with fail
          rw [← HB0.out]
          try rw [HB0s.out]
          refine (HT.out _ (K.trans (by repeat (first | exact KB.refl _ _ | refine KB.alloc ?_ _)))).mono ?_
          rintro e W1 ⟨rfl, hkk⟩
          have kk : KB F0 B0 W1 := KB.trans (by repeat (first | exact KB.refl _ _ | refine KB.alloc ?_ _)) hkk
          replace c2 := kk.cell (p := ⟨w.heap.size, 2, none⟩) (fun x => x) c2
          replace c3 := kk.cell (p := ⟨w.heap.size, 3, none⟩) (fun x => x) c3
          replace K := K.trans kk
          clear kk hkk
          go_wp2_with fail
          refine (kindCall (ks := [35]) _ (by decide) (alloc_new W1 _)).mono ?_
          rintro e W2 ⟨kb2, rfl, hc0, hkk⟩
          have kk : KB F0 W1 W2 := KB.trans (by repeat (first | exact KB.refl _ _ | refine KB.alloc ?_ _)) hkk
          replace c2 := kk.cell (p := ⟨w.heap.size, 2, none⟩) (fun x => x) c2
          replace c3 := kk.cell (p := ⟨w.heap.size, 3, none⟩) (fun x => x) c3
          replace K := K.trans kk
          clear kk hkk
          go_wp2_with fail
          refine (HA.out _ _ (K.trans (by repeat (first | exact KB.refl _ _ | refine KB.alloc ?_ _))) hc0).mono ?_
          rintro e W3 ⟨rfl, hkk⟩
          have kk : KB F0 W2 W3 := KB.trans (by repeat (first | exact KB.refl _ _ | refine KB.alloc ?_ _)) hkk
          replace c2 := kk.cell (p := ⟨w.heap.size, 2, none⟩) (fun x => x) c2
          replace c3 := kk.cell (p := ⟨w.heap.size, 3, none⟩) (fun x => x) c3
          replace K := K.trans kk
          clear kk hkk
          go_wp2_with fail
          go_ret
          exact ⟨ret_eq (by rw [Hr.out]; rfl), K⟩

set_option maxRecDepth 100000 in
set_option maxHeartbeats 4000000 in
theorem asks_35 (at_ n : Int) (s : ByteArray) (la : Option Addr) (ll lc : Nat) (a : Option Addr) (l : List Nat) (cap : Nat) (w : World) (hs : s.size ≤ 9223372036854775807) (hl : l.length ≤ 9223372036854775807) (ha : KindsAt w a l) (hT : Tab w) (_hn1 : -9223372036854775808 ≤ n) (_hn2 : n ≤ 9223372036854775807) :
    Calls Tryd.prog 60 #[.agg #[.int .u8 35, .int .i64 at_, .int .i64 n, .string s, .slice la ll lc], .slice a l.length cap] w fun e w' => e = .returned (.bool (askB 35 n s l)) ∧ KB F0 w w' := by
  have Hr : Hid (askB 35 n s l = (justB l [.ex] && nameB s && decide ((0 : Int) ≤ n) && decide (n ≤ (0 : Int)))) := Lib.hid rfl
  obtain ⟨B0, hB0⟩ : ∃ B0, B0 = (w.alloc (.cells #[.int .u8 35, .int .i64 at_, .int .i64 n, .string s, .slice la ll lc] 25)) := ⟨_, rfl⟩
  have K : KB F0 w B0 := by subst hB0; exact (KB.refl _ _).alloc _
  have c2 : B0.cell? ⟨w.heap.size, 2, none⟩ = some (.int .i64 n) := by subst hB0; exact new_cell _ _ _ 2
  have c3 : B0.cell? ⟨w.heap.size, 3, none⟩ = some (.string s) := by subst hB0; exact new_cell _ _ _ 3
  have HB0s : Hid (w.heap.size + 1 = B0.heap.size) := Lib.hid (by subst hB0; simp)
  have HB0 := Lib.hid hB0
  clear hB0
  have HN := Lib.hid (fun W (hk : KB F0 w W) => name_any s W hs (hT.kb hk))
  have HJ := Lib.hid (fun W a2 cap2 (hk : KB F0 w W) (hc : ClsAt W a2 [.ex]) => justV a a2 l [.ex] cap cap2 W hl (by decide) (ha.kbF hk) hc)
  generalize justB l [.ex] = b0 at HJ Hr
  generalize nameB s = bN at HN Hr
  obtain ⟨b1, hb1⟩ : ∃ b, decide ((0 : Int) ≤ n) = b := ⟨_, rfl⟩
  obtain ⟨b2, hb2⟩ : ∃ b, decide (n ≤ (0 : Int)) = b := ⟨_, rfl⟩
  rw [hb1, hb2] at Hr
  clear ha hT
  cases b0
  · go_enter Tryd.func60, Tryd.ntmps60
    go_wp2_with fail
    rw [← HB0.out]
    try rw [HB0s.out]
    refine (HN.out _ (K.trans (by repeat (first | exact KB.refl _ _ | refine KB.alloc ?_ _)))).mono ?_
    rintro e W1 ⟨rfl, hkk⟩
    have kk : KB F0 B0 W1 := KB.trans (by repeat (first | exact KB.refl _ _ | refine KB.alloc ?_ _)) hkk
    replace c2 := kk.cell (p := ⟨w.heap.size, 2, none⟩) (fun x => x) c2
    replace c3 := kk.cell (p := ⟨w.heap.size, 3, none⟩) (fun x => x) c3
    replace K := K.trans kk
    clear kk hkk
    go_wp2_with fail
    refine (HJ.out _ _ _ (K.trans (by repeat (first | exact KB.refl _ _ | refine KB.alloc ?_ _))) (clsat1 (W := W1) (show ClsV _ (.func (.func 70) #[] #[]) .ex from rfl))).mono ?_
    rintro e W2 ⟨rfl, hkk⟩
    have kk : KB F0 W1 W2 := KB.trans (by repeat (first | exact KB.refl _ _ | refine KB.alloc ?_ _)) hkk
    replace c2 := kk.cell (p := ⟨w.heap.size, 2, none⟩) (fun x => x) c2
    replace c3 := kk.cell (p := ⟨w.heap.size, 3, none⟩) (fun x => x) c3
    replace K := K.trans kk
    clear kk hkk
    go_wp2_with fail
    go_ret
    exact ⟨ret_eq (by rw [Hr.out]; rfl), K⟩
  · cases bN
    · go_enter Tryd.func60, Tryd.ntmps60
      go_wp2_with fail
      rw [← HB0.out]
      try rw [HB0s.out]
      refine (HN.out _ (K.trans (by repeat (first | exact KB.refl _ _ | refine KB.alloc ?_ _)))).mono ?_
      rintro e W1 ⟨rfl, hkk⟩
      have kk : KB F0 B0 W1 := KB.trans (by repeat (first | exact KB.refl _ _ | refine KB.alloc ?_ _)) hkk
      replace c2 := kk.cell (p := ⟨w.heap.size, 2, none⟩) (fun x => x) c2
      replace c3 := kk.cell (p := ⟨w.heap.size, 3, none⟩) (fun x => x) c3
      replace K := K.trans kk
      clear kk hkk
      go_wp2_with fail
      refine (HJ.out _ _ _ (K.trans (by repeat (first | exact KB.refl _ _ | refine KB.alloc ?_ _))) (clsat1 (W := W1) (show ClsV _ (.func (.func 70) #[] #[]) .ex from rfl))).mono ?_
      rintro e W2 ⟨rfl, hkk⟩
      have kk : KB F0 W1 W2 := KB.trans (by repeat (first | exact KB.refl _ _ | refine KB.alloc ?_ _)) hkk
      replace c2 := kk.cell (p := ⟨w.heap.size, 2, none⟩) (fun x => x) c2
      replace c3 := kk.cell (p := ⟨w.heap.size, 3, none⟩) (fun x => x) c3
      replace K := K.trans kk
      clear kk hkk
      go_wp2_with fail
      go_ret
      exact ⟨ret_eq (by rw [Hr.out]; rfl), K⟩
    · cases b1
      · go_enter Tryd.func60, Tryd.ntmps60
        go_wp2_with fail
        rw [← HB0.out]
        try rw [HB0s.out]
        refine (HN.out _ (K.trans (by repeat (first | exact KB.refl _ _ | refine KB.alloc ?_ _)))).mono ?_
        rintro e W1 ⟨rfl, hkk⟩
        have kk : KB F0 B0 W1 := KB.trans (by repeat (first | exact KB.refl _ _ | refine KB.alloc ?_ _)) hkk
        replace c2 := kk.cell (p := ⟨w.heap.size, 2, none⟩) (fun x => x) c2
        replace c3 := kk.cell (p := ⟨w.heap.size, 3, none⟩) (fun x => x) c3
        replace K := K.trans kk
        clear kk hkk
        go_wp2_with fail
        refine (HJ.out _ _ _ (K.trans (by repeat (first | exact KB.refl _ _ | refine KB.alloc ?_ _))) (clsat1 (W := W1) (show ClsV _ (.func (.func 70) #[] #[]) .ex from rfl))).mono ?_
        rintro e W2 ⟨rfl, hkk⟩
        have kk : KB F0 W1 W2 := KB.trans (by repeat (first | exact KB.refl _ _ | refine KB.alloc ?_ _)) hkk
        replace c2 := kk.cell (p := ⟨w.heap.size, 2, none⟩) (fun x => x) c2
        replace c3 := kk.cell (p := ⟨w.heap.size, 3, none⟩) (fun x => x) c3
        replace K := K.trans kk
        clear kk hkk
        go_wp2_with fail
        go_ret
        exact ⟨ret_eq (by rw [Hr.out]; rfl), K⟩

      · cases b2
        · go_enter Tryd.func60, Tryd.ntmps60
          go_wp2_with fail
          rw [← HB0.out]
          try rw [HB0s.out]
          refine (HN.out _ (K.trans (by repeat (first | exact KB.refl _ _ | refine KB.alloc ?_ _)))).mono ?_
          rintro e W1 ⟨rfl, hkk⟩
          have kk : KB F0 B0 W1 := KB.trans (by repeat (first | exact KB.refl _ _ | refine KB.alloc ?_ _)) hkk
          replace c2 := kk.cell (p := ⟨w.heap.size, 2, none⟩) (fun x => x) c2
          replace c3 := kk.cell (p := ⟨w.heap.size, 3, none⟩) (fun x => x) c3
          replace K := K.trans kk
          clear kk hkk
          go_wp2_with fail
          refine (HJ.out _ _ _ (K.trans (by repeat (first | exact KB.refl _ _ | refine KB.alloc ?_ _))) (clsat1 (W := W1) (show ClsV _ (.func (.func 70) #[] #[]) .ex from rfl))).mono ?_
          rintro e W2 ⟨rfl, hkk⟩
          have kk : KB F0 W1 W2 := KB.trans (by repeat (first | exact KB.refl _ _ | refine KB.alloc ?_ _)) hkk
          replace c2 := kk.cell (p := ⟨w.heap.size, 2, none⟩) (fun x => x) c2
          replace c3 := kk.cell (p := ⟨w.heap.size, 3, none⟩) (fun x => x) c3
          replace K := K.trans kk
          clear kk hkk
          go_wp2_with fail
          go_ret
          exact ⟨ret_eq (by rw [Hr.out]; rfl), K⟩

        · go_enter Tryd.func60, Tryd.ntmps60
          go_wp2_with fail
          rw [← HB0.out]
          try rw [HB0s.out]
          refine (HN.out _ (K.trans (by repeat (first | exact KB.refl _ _ | refine KB.alloc ?_ _)))).mono ?_
          rintro e W1 ⟨rfl, hkk⟩
          have kk : KB F0 B0 W1 := KB.trans (by repeat (first | exact KB.refl _ _ | refine KB.alloc ?_ _)) hkk
          replace c2 := kk.cell (p := ⟨w.heap.size, 2, none⟩) (fun x => x) c2
          replace c3 := kk.cell (p := ⟨w.heap.size, 3, none⟩) (fun x => x) c3
          replace K := K.trans kk
          clear kk hkk
          go_wp2_with fail
          refine (HJ.out _ _ _ (K.trans (by repeat (first | exact KB.refl _ _ | refine KB.alloc ?_ _))) (clsat1 (W := W1) (show ClsV _ (.func (.func 70) #[] #[]) .ex from rfl))).mono ?_
          rintro e W2 ⟨rfl, hkk⟩
          have kk : KB F0 W1 W2 := KB.trans (by repeat (first | exact KB.refl _ _ | refine KB.alloc ?_ _)) hkk
          replace c2 := kk.cell (p := ⟨w.heap.size, 2, none⟩) (fun x => x) c2
          replace c3 := kk.cell (p := ⟨w.heap.size, 3, none⟩) (fun x => x) c3
          replace K := K.trans kk
          clear kk hkk
          go_wp2_with fail
          go_ret
          exact ⟨ret_eq (by rw [Hr.out]; rfl), K⟩

set_option maxRecDepth 100000 in
set_option maxHeartbeats 4000000 in
theorem asks_36 (at_ n : Int) (s : ByteArray) (la : Option Addr) (ll lc : Nat) (a : Option Addr) (l : List Nat) (cap : Nat) (w : World) (_hs : s.size ≤ 9223372036854775807) (hl : l.length ≤ 9223372036854775807) (ha : KindsAt w a l) (_hT : Tab w) (_hn1 : -9223372036854775808 ≤ n) (_hn2 : n ≤ 9223372036854775807) :
    Calls Tryd.prog 60 #[.agg #[.int .u8 36, .int .i64 at_, .int .i64 n, .string s, .slice la ll lc], .slice a l.length cap] w fun e w' => e = .returned (.bool (askB 36 n s l)) ∧ KB F0 w w' := by
  have Hr : Hid (askB 36 n s l = (justB l [.ex] && emptyB s && decide ((0 : Int) ≤ n) && decide (n ≤ (0 : Int)))) := Lib.hid rfl
  obtain ⟨B0, hB0⟩ : ∃ B0, B0 = (w.alloc (.cells #[.int .u8 36, .int .i64 at_, .int .i64 n, .string s, .slice la ll lc] 25)) := ⟨_, rfl⟩
  have K : KB F0 w B0 := by subst hB0; exact (KB.refl _ _).alloc _
  have c2 : B0.cell? ⟨w.heap.size, 2, none⟩ = some (.int .i64 n) := by subst hB0; exact new_cell _ _ _ 2
  have c3 : B0.cell? ⟨w.heap.size, 3, none⟩ = some (.string s) := by subst hB0; exact new_cell _ _ _ 3
  have HB0s : Hid (w.heap.size + 1 = B0.heap.size) := Lib.hid (by subst hB0; simp)
  have HB0 := Lib.hid hB0
  clear hB0
  have HJ := Lib.hid (fun W a2 cap2 (hk : KB F0 w W) (hc : ClsAt W a2 [.ex]) => justV a a2 l [.ex] cap cap2 W hl (by decide) (ha.kbF hk) hc)
  generalize justB l [.ex] = b0 at HJ Hr
  have tE : s.toList.isEmpty = emptyB s := rfl
  generalize emptyB s = bE at tE Hr
  obtain ⟨b1, hb1⟩ : ∃ b, decide ((0 : Int) ≤ n) = b := ⟨_, rfl⟩
  obtain ⟨b2, hb2⟩ : ∃ b, decide (n ≤ (0 : Int)) = b := ⟨_, rfl⟩
  rw [hb1, hb2] at Hr
  clear ha _hT
  cases b0
  · go_enter Tryd.func60, Tryd.ntmps60
    go_wp2_with fail
    rw [← HB0.out]
    try rw [HB0s.out]
    refine (HJ.out _ _ _ (K.trans (by repeat (first | exact KB.refl _ _ | refine KB.alloc ?_ _))) (clsat1 (W := B0) (show ClsV _ (.func (.func 70) #[] #[]) .ex from rfl))).mono ?_
    rintro e W1 ⟨rfl, hkk⟩
    have kk : KB F0 B0 W1 := KB.trans (by repeat (first | exact KB.refl _ _ | refine KB.alloc ?_ _)) hkk
    replace c2 := kk.cell (p := ⟨w.heap.size, 2, none⟩) (fun x => x) c2
    replace c3 := kk.cell (p := ⟨w.heap.size, 3, none⟩) (fun x => x) c3
    replace K := K.trans kk
    clear kk hkk
    go_wp2_with fail
    go_ret
    exact ⟨ret_eq (by rw [Hr.out]; rfl), K⟩
  · cases bE
    · go_enter Tryd.func60, Tryd.ntmps60
      go_wp2_with fail
      rw [← HB0.out]
      try rw [HB0s.out]
      refine (HJ.out _ _ _ (K.trans (by repeat (first | exact KB.refl _ _ | refine KB.alloc ?_ _))) (clsat1 (W := B0) (show ClsV _ (.func (.func 70) #[] #[]) .ex from rfl))).mono ?_
      rintro e W1 ⟨rfl, hkk⟩
      have kk : KB F0 B0 W1 := KB.trans (by repeat (first | exact KB.refl _ _ | refine KB.alloc ?_ _)) hkk
      replace c2 := kk.cell (p := ⟨w.heap.size, 2, none⟩) (fun x => x) c2
      replace c3 := kk.cell (p := ⟨w.heap.size, 3, none⟩) (fun x => x) c3
      replace K := K.trans kk
      clear kk hkk
      go_wp2_with fail
      go_ret
      exact ⟨ret_eq (by rw [Hr.out]; rfl), K⟩
    · cases b1
      · go_enter Tryd.func60, Tryd.ntmps60
        go_wp2_with fail
        rw [← HB0.out]
        try rw [HB0s.out]
        refine (HJ.out _ _ _ (K.trans (by repeat (first | exact KB.refl _ _ | refine KB.alloc ?_ _))) (clsat1 (W := B0) (show ClsV _ (.func (.func 70) #[] #[]) .ex from rfl))).mono ?_
        rintro e W1 ⟨rfl, hkk⟩
        have kk : KB F0 B0 W1 := KB.trans (by repeat (first | exact KB.refl _ _ | refine KB.alloc ?_ _)) hkk
        replace c2 := kk.cell (p := ⟨w.heap.size, 2, none⟩) (fun x => x) c2
        replace c3 := kk.cell (p := ⟨w.heap.size, 3, none⟩) (fun x => x) c3
        replace K := K.trans kk
        clear kk hkk
        go_wp2_with fail
        go_ret
        exact ⟨ret_eq (by rw [Hr.out]; rfl), K⟩

      · cases b2
        · go_enter Tryd.func60, Tryd.ntmps60
          go_wp2_with fail
          rw [← HB0.out]
          try rw [HB0s.out]
          refine (HJ.out _ _ _ (K.trans (by repeat (first | exact KB.refl _ _ | refine KB.alloc ?_ _))) (clsat1 (W := B0) (show ClsV _ (.func (.func 70) #[] #[]) .ex from rfl))).mono ?_
          rintro e W1 ⟨rfl, hkk⟩
          have kk : KB F0 B0 W1 := KB.trans (by repeat (first | exact KB.refl _ _ | refine KB.alloc ?_ _)) hkk
          replace c2 := kk.cell (p := ⟨w.heap.size, 2, none⟩) (fun x => x) c2
          replace c3 := kk.cell (p := ⟨w.heap.size, 3, none⟩) (fun x => x) c3
          replace K := K.trans kk
          clear kk hkk
          go_wp2_with fail
          go_ret
          exact ⟨ret_eq (by rw [Hr.out]; rfl), K⟩

        · go_enter Tryd.func60, Tryd.ntmps60
          go_wp2_with fail
          rw [← HB0.out]
          try rw [HB0s.out]
          refine (HJ.out _ _ _ (K.trans (by repeat (first | exact KB.refl _ _ | refine KB.alloc ?_ _))) (clsat1 (W := B0) (show ClsV _ (.func (.func 70) #[] #[]) .ex from rfl))).mono ?_
          rintro e W1 ⟨rfl, hkk⟩
          have kk : KB F0 B0 W1 := KB.trans (by repeat (first | exact KB.refl _ _ | refine KB.alloc ?_ _)) hkk
          replace c2 := kk.cell (p := ⟨w.heap.size, 2, none⟩) (fun x => x) c2
          replace c3 := kk.cell (p := ⟨w.heap.size, 3, none⟩) (fun x => x) c3
          replace K := K.trans kk
          clear kk hkk
          go_wp2_with fail
          go_ret
          exact ⟨ret_eq (by rw [Hr.out]; rfl), K⟩

set_option maxRecDepth 100000 in
set_option maxHeartbeats 4000000 in
theorem asks_37 (at_ n : Int) (s : ByteArray) (la : Option Addr) (ll lc : Nat) (a : Option Addr) (l : List Nat) (cap : Nat) (w : World) (_hs : s.size ≤ 9223372036854775807) (_hl : l.length ≤ 9223372036854775807) (_ha : KindsAt w a l) (_hT : Tab w) (_hn1 : -9223372036854775808 ≤ n) (_hn2 : n ≤ 9223372036854775807) :
    Calls Tryd.prog 60 #[.agg #[.int .u8 37, .int .i64 at_, .int .i64 n, .string s, .slice la ll lc], .slice a l.length cap] w fun e w' => e = .returned (.bool (askB 37 n s l)) ∧ KB F0 w w' := by
  have Hr : Hid (askB 37 n s l = (len0B l && emptyB s && decide ((0 : Int) ≤ n) && decide (n ≤ (0 : Int)))) := Lib.hid rfl
  obtain ⟨B0, hB0⟩ : ∃ B0, B0 = (w.alloc (.cells #[.int .u8 37, .int .i64 at_, .int .i64 n, .string s, .slice la ll lc] 25)) := ⟨_, rfl⟩
  have K : KB F0 w B0 := by subst hB0; exact (KB.refl _ _).alloc _
  have c2 : B0.cell? ⟨w.heap.size, 2, none⟩ = some (.int .i64 n) := by subst hB0; exact new_cell _ _ _ 2
  have c3 : B0.cell? ⟨w.heap.size, 3, none⟩ = some (.string s) := by subst hB0; exact new_cell _ _ _ 3
  have HB0s : Hid (w.heap.size + 1 = B0.heap.size) := Lib.hid (by subst hB0; simp)
  have HB0 := Lib.hid hB0
  clear hB0
  have t0 : ((l.length : Int) == 0) = len0B l := deq1 rfl
  generalize len0B l = b0 at t0 Hr
  have tE : s.toList.isEmpty = emptyB s := rfl
  generalize emptyB s = bE at tE Hr
  obtain ⟨b1, hb1⟩ : ∃ b, decide ((0 : Int) ≤ n) = b := ⟨_, rfl⟩
  obtain ⟨b2, hb2⟩ : ∃ b, decide (n ≤ (0 : Int)) = b := ⟨_, rfl⟩
  rw [hb1, hb2] at Hr
  clear _ha _hT
  cases b0
  · go_enter Tryd.func60, Tryd.ntmps60
    go_wp2_with fail
    rw [← HB0.out]
    try rw [HB0s.out]
    go_ret
    exact ⟨ret_eq (by rw [Hr.out]; rfl), K⟩
  · cases bE
    · go_enter Tryd.func60, Tryd.ntmps60
      go_wp2_with fail
      rw [← HB0.out]
      try rw [HB0s.out]
      go_ret
      exact ⟨ret_eq (by rw [Hr.out]; rfl), K⟩
    · cases b1
      · go_enter Tryd.func60, Tryd.ntmps60
        go_wp2_with fail
        rw [← HB0.out]
        try rw [HB0s.out]
        go_ret
        exact ⟨ret_eq (by rw [Hr.out]; rfl), K⟩

      · cases b2
        · go_enter Tryd.func60, Tryd.ntmps60
          go_wp2_with fail
          rw [← HB0.out]
          try rw [HB0s.out]
          go_ret
          exact ⟨ret_eq (by rw [Hr.out]; rfl), K⟩

        · go_enter Tryd.func60, Tryd.ntmps60
          go_wp2_with fail
          rw [← HB0.out]
          try rw [HB0s.out]
          go_ret
          exact ⟨ret_eq (by rw [Hr.out]; rfl), K⟩

set_option maxRecDepth 100000 in
set_option maxHeartbeats 4000000 in
theorem asks_38 (k : Nat) (hk : 38 ≤ k) (at_ n : Int) (s : ByteArray) (la : Option Addr) (ll lc : Nat) (a : Option Addr) (l : List Nat) (cap : Nat) (w : World) (_hs : s.size ≤ 9223372036854775807) (_hl : l.length ≤ 9223372036854775807) (_ha : KindsAt w a l) (_hT : Tab w) (_hn1 : -9223372036854775808 ≤ n) (_hn2 : n ≤ 9223372036854775807) :
    Calls Tryd.prog 60 #[.agg #[.int .u8 k, .int .i64 at_, .int .i64 n, .string s, .slice la ll lc], .slice a l.length cap] w fun e w' => e = .returned (.bool (askB k n s l)) ∧ KB F0 w w' := by
  have Hr : Hid (askB k n s l = (false && emptyB s && decide ((0 : Int) ≤ n) && decide (n ≤ (0 : Int)))) := Lib.hid (by unfold askB; rw [ask_big n s l hk])
  obtain ⟨B0, hB0⟩ : ∃ B0, B0 = (w.alloc (.cells #[.int .u8 k, .int .i64 at_, .int .i64 n, .string s, .slice la ll lc] 25)) := ⟨_, rfl⟩
  have K : KB F0 w B0 := by subst hB0; exact (KB.refl _ _).alloc _
  have c2 : B0.cell? ⟨w.heap.size, 2, none⟩ = some (.int .i64 n) := by subst hB0; exact new_cell _ _ _ 2
  have c3 : B0.cell? ⟨w.heap.size, 3, none⟩ = some (.string s) := by subst hB0; exact new_cell _ _ _ 3
  have HB0s : Hid (w.heap.size + 1 = B0.heap.size) := Lib.hid (by subst hB0; simp)
  have HB0 := Lib.hid hB0
  clear hB0
  have tE : s.toList.isEmpty = emptyB s := rfl
  generalize emptyB s = bE at tE Hr
  have u0 : ((k : Int) == 13) = false := by simp; omega
  have u1 : ((k : Int) == 14) = false := by simp; omega
  have u2 : ((k : Int) == 15) = false := by simp; omega
  have u3 : ((k : Int) == 16) = false := by simp; omega
  have u4 : ((k : Int) == 17) = false := by simp; omega
  have u5 : ((k : Int) == 18) = false := by simp; omega
  have u6 : ((k : Int) == 21) = false := by simp; omega
  have u7 : ((k : Int) == 22) = false := by simp; omega
  have u8 : ((k : Int) == 28) = false := by simp; omega
  have u9 : ((k : Int) == 30) = false := by simp; omega
  have u10 : ((k : Int) == 31) = false := by simp; omega
  have u11 : ((k : Int) == 36) = false := by simp; omega
  have u12 : ((k : Int) == 23) = false := by simp; omega
  have u13 : ((k : Int) == 24) = false := by simp; omega
  have u14 : ((k : Int) == 25) = false := by simp; omega
  have u15 : ((k : Int) == 26) = false := by simp; omega
  have u16 : ((k : Int) == 27) = false := by simp; omega
  have u17 : ((k : Int) == 35) = false := by simp; omega
  have u18 : ((k : Int) == 29) = false := by simp; omega
  have u19 : ((k : Int) == 32) = false := by simp; omega
  have u20 : ((k : Int) == 33) = false := by simp; omega
  have u21 : ((k : Int) == 34) = false := by simp; omega
  have u22 : ((k : Int) == 19) = false := by simp; omega
  have u23 : ((k : Int) == 20) = false := by simp; omega
  have u24 : ((k : Int) == 37) = false := by simp; omega
  clear hk
  obtain ⟨b1, hb1⟩ : ∃ b, decide ((0 : Int) ≤ n) = b := ⟨_, rfl⟩
  obtain ⟨b2, hb2⟩ : ∃ b, decide (n ≤ (0 : Int)) = b := ⟨_, rfl⟩
  rw [hb1, hb2] at Hr
  clear _ha _hT
  go_enter Tryd.func60, Tryd.ntmps60
  go_wp2_with fail
  rw [← HB0.out]
  try rw [HB0s.out]
  go_ret
  exact ⟨ret_eq (by rw [Hr.out]; rfl), K⟩

end Go.Proofs.YtjefoojkgocinaaDoor

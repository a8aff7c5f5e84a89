/- tree.asksItems, asksInside at each kind of nodes. -/
import Derived.Test.YtjefoojkgocinaaDoorTreeH
namespace Go.Proofs.YtjefoojkgocinaaDoor
open Go.RowKit
set_option maxRecDepth 100000 in
set_option maxHeartbeats 4000000 in
theorem asks_1 (at_ n : Int) (s : ByteArray) (la : Option Addr) (ll lc : Nat) (a : Option Addr) (l : List Nat) (cap : Nat) (w : World) (_hs : s.size ≤ 9223372036854775807) (hl : l.length ≤ 9223372036854775807) (ha : KindsAt w a l) (_hT : Tab w) (_hn1 : -9223372036854775808 ≤ n) (_hn2 : n ≤ 9223372036854775807) :
    Calls Tryd.prog 61 #[.agg #[.int .u8 1, .int .i64 at_, .int .i64 n, .string s, .slice la ll lc], .slice a l.length cap] w fun e w' => e = .returned (.bool (askB 1 n s l)) ∧ KB F0 w w' := by
  have Hr : Hid (askB 1 n s l = (askedB l 0 16384 (.kd [2, 4]) && emptyB s && decide ((0 : Int) ≤ n) && decide (n ≤ (0 : Int)))) := Lib.hid rfl
  obtain ⟨B0, hB0⟩ : ∃ B0, B0 = (w.alloc (.cells #[.int .u8 1, .int .i64 at_, .int .i64 n, .string s, .slice la ll lc] 25)) := ⟨_, rfl⟩
  have K : KB F0 w B0 := by subst hB0; exact (KB.refl _ _).alloc _
  have c2 : B0.cell? ⟨w.heap.size, 2, none⟩ = some (.int .i64 n) := by subst hB0; exact new_cell _ _ _ 2
  have c3 : B0.cell? ⟨w.heap.size, 3, none⟩ = some (.string s) := by subst hB0; exact new_cell _ _ _ 3
  have HB0s : Hid (w.heap.size + 1 = B0.heap.size) := Lib.hid (by subst hB0; simp)
  have HB0 := Lib.hid hB0
  clear hB0
  have HA := Lib.hid (fun W v (hk : KB F0 w W) (hv : ClsV W v (.kd [2, 4])) => asked_any a l cap 0 16384 v (.kd [2, 4]) W hl (ha.kbF hk) hv)
  generalize askedB l 0 16384 (.kd [2, 4]) = b0 at HA Hr
  have tE : s.toList.isEmpty = emptyB s := rfl
  generalize emptyB s = bE at tE Hr
  obtain ⟨b1, hb1⟩ : ∃ b, decide ((0 : Int) ≤ n) = b := ⟨_, rfl⟩
  obtain ⟨b2, hb2⟩ : ∃ b, decide (n ≤ (0 : Int)) = b := ⟨_, rfl⟩
  rw [hb1, hb2] at Hr
  clear ha _hT
  cases b0
  · go_enter Tryd.func61, Tryd.ntmps61
    go_wp2_with fail
    rw [← HB0.out]
    try rw [HB0s.out]
    refine (kindCall (ks := [2, 4]) _ (by decide) (alloc_new B0 _)).mono ?_
    rintro e W1 ⟨kb1, rfl, hc0, hkk⟩
    have kk : KB F0 B0 W1 := KB.trans (by repeat (first | exact KB.refl _ _ | refine KB.alloc ?_ _)) hkk
    replace c2 := kk.cell (p := ⟨w.heap.size, 2, none⟩) (fun x => x) c2
    replace c3 := kk.cell (p := ⟨w.heap.size, 3, none⟩) (fun x => x) c3
    replace K := K.trans kk
    clear kk hkk
    go_wp2_with fail
    refine (HA.out _ _ (K.trans (by repeat (first | exact KB.refl _ _ | refine KB.alloc ?_ _))) hc0).mono ?_
    rintro e W2 ⟨rfl, hkk⟩
    have kk : KB F0 W1 W2 := KB.trans (by repeat (first | exact KB.refl _ _ | refine KB.alloc ?_ _)) hkk
    replace c2 := kk.cell (p := ⟨w.heap.size, 2, none⟩) (fun x => x) c2
    replace c3 := kk.cell (p := ⟨w.heap.size, 3, none⟩) (fun x => x) c3
    replace K := K.trans kk
    clear kk hkk
    go_wp2_with fail
    go_ret
    exact ⟨ret_eq (by rw [Hr.out]; rfl), K⟩
  · cases bE
    · go_enter Tryd.func61, Tryd.ntmps61
      go_wp2_with fail
      rw [← HB0.out]
      try rw [HB0s.out]
      refine (kindCall (ks := [2, 4]) _ (by decide) (alloc_new B0 _)).mono ?_
      rintro e W1 ⟨kb1, rfl, hc0, hkk⟩
      have kk : KB F0 B0 W1 := KB.trans (by repeat (first | exact KB.refl _ _ | refine KB.alloc ?_ _)) hkk
      replace c2 := kk.cell (p := ⟨w.heap.size, 2, none⟩) (fun x => x) c2
      replace c3 := kk.cell (p := ⟨w.heap.size, 3, none⟩) (fun x => x) c3
      replace K := K.trans kk
      clear kk hkk
      go_wp2_with fail
      refine (HA.out _ _ (K.trans (by repeat (first | exact KB.refl _ _ | refine KB.alloc ?_ _))) hc0).mono ?_
      rintro e W2 ⟨rfl, hkk⟩
      have kk : KB F0 W1 W2 := KB.trans (by repeat (first | exact KB.refl _ _ | refine KB.alloc ?_ _)) hkk
      replace c2 := kk.cell (p := ⟨w.heap.size, 2, none⟩) (fun x => x) c2
      replace c3 := kk.cell (p := ⟨w.heap.size, 3, none⟩) (fun x => x) c3
      replace K := K.trans kk
      clear kk hkk
      go_wp2_with fail
      go_ret
      exact ⟨ret_eq (by rw [Hr.out]; rfl), K⟩
    · cases b1
      · go_enter Tryd.func61, Tryd.ntmps61
        go_wp2_with fail
        rw [← HB0.out]
        try rw [HB0s.out]
        refine (kindCall (ks := [2, 4]) _ (by decide) (alloc_new B0 _)).mono ?_
        rintro e W1 ⟨kb1, rfl, hc0, hkk⟩
        have kk : KB F0 B0 W1 := KB.trans (by repeat (first | exact KB.refl _ _ | refine KB.alloc ?_ _)) hkk
        replace c2 := kk.cell (p := ⟨w.heap.size, 2, none⟩) (fun x => x) c2
        replace c3 := kk.cell (p := ⟨w.heap.size, 3, none⟩) (fun x => x) c3
        replace K := K.trans kk
        clear kk hkk
        go_wp2_with fail
        refine (HA.out _ _ (K.trans (by repeat (first | exact KB.refl _ _ | refine KB.alloc ?_ _))) hc0).mono ?_
        rintro e W2 ⟨rfl, hkk⟩
        have kk : KB F0 W1 W2 := KB.trans (by repeat (first | exact KB.refl _ _ | refine KB.alloc ?_ _)) hkk
        replace c2 := kk.cell (p := ⟨w.heap.size, 2, none⟩) (fun x => x) c2
        replace c3 := kk.cell (p := ⟨w.heap.size, 3, none⟩) (fun x => x) c3
        replace K := K.trans kk
        clear kk hkk
        go_wp2_with fail
        go_ret
        exact ⟨ret_eq (by rw [Hr.out]; rfl), K⟩

      · cases b2
        · go_enter Tryd.func61, Tryd.ntmps61
          go_wp2_with fail
          rw [← HB0.out]
          try rw [HB0s.out]
          refine (kindCall (ks := [2, 4]) _ (by decide) (alloc_new B0 _)).mono ?_
          rintro e W1 ⟨kb1, rfl, hc0, hkk⟩
          have kk : KB F0 B0 W1 := KB.trans (by repeat (first | exact KB.refl _ _ | refine KB.alloc ?_ _)) hkk
          replace c2 := kk.cell (p := ⟨w.heap.size, 2, none⟩) (fun x => x) c2
          replace c3 := kk.cell (p := ⟨w.heap.size, 3, none⟩) (fun x => x) c3
          replace K := K.trans kk
          clear kk hkk
          go_wp2_with fail
          refine (HA.out _ _ (K.trans (by repeat (first | exact KB.refl _ _ | refine KB.alloc ?_ _))) hc0).mono ?_
          rintro e W2 ⟨rfl, hkk⟩
          have kk : KB F0 W1 W2 := KB.trans (by repeat (first | exact KB.refl _ _ | refine KB.alloc ?_ _)) hkk
          replace c2 := kk.cell (p := ⟨w.heap.size, 2, none⟩) (fun x => x) c2
          replace c3 := kk.cell (p := ⟨w.heap.size, 3, none⟩) (fun x => x) c3
          replace K := K.trans kk
          clear kk hkk
          go_wp2_with fail
          go_ret
          exact ⟨ret_eq (by rw [Hr.out]; rfl), K⟩

        · go_enter Tryd.func61, Tryd.ntmps61
          go_wp2_with fail
          rw [← HB0.out]
          try rw [HB0s.out]
          refine (kindCall (ks := [2, 4]) _ (by decide) (alloc_new B0 _)).mono ?_
          rintro e W1 ⟨kb1, rfl, hc0, hkk⟩
          have kk : KB F0 B0 W1 := KB.trans (by repeat (first | exact KB.refl _ _ | refine KB.alloc ?_ _)) hkk
          replace c2 := kk.cell (p := ⟨w.heap.size, 2, none⟩) (fun x => x) c2
          replace c3 := kk.cell (p := ⟨w.heap.size, 3, none⟩) (fun x => x) c3
          replace K := K.trans kk
          clear kk hkk
          go_wp2_with fail
          refine (HA.out _ _ (K.trans (by repeat (first | exact KB.refl _ _ | refine KB.alloc ?_ _))) hc0).mono ?_
          rintro e W2 ⟨rfl, hkk⟩
          have kk : KB F0 W1 W2 := KB.trans (by repeat (first | exact KB.refl _ _ | refine KB.alloc ?_ _)) hkk
          replace c2 := kk.cell (p := ⟨w.heap.size, 2, none⟩) (fun x => x) c2
          replace c3 := kk.cell (p := ⟨w.heap.size, 3, none⟩) (fun x => x) c3
          replace K := K.trans kk
          clear kk hkk
          go_wp2_with fail
          go_ret
          exact ⟨ret_eq (by rw [Hr.out]; rfl), K⟩

set_option maxRecDepth 100000 in
set_option maxHeartbeats 4000000 in
theorem asks_2 (at_ n : Int) (s : ByteArray) (la : Option Addr) (ll lc : Nat) (a : Option Addr) (l : List Nat) (cap : Nat) (w : World) (hs : s.size ≤ 9223372036854775807) (hl : l.length ≤ 9223372036854775807) (ha : KindsAt w a l) (_hT : Tab w) (_hn1 : -9223372036854775808 ≤ n) (_hn2 : n ≤ 9223372036854775807) :
    Calls Tryd.prog 61 #[.agg #[.int .u8 2, .int .i64 at_, .int .i64 n, .string s, .slice la ll lc], .slice a l.length cap] w fun e w' => e = .returned (.bool (askB 2 n s l)) ∧ KB F0 w w' := by
  have Hr : Hid (askB 2 n s l = (askedB l 1 8 (.kd [3]) && typeNameB s && decide ((0 : Int) ≤ n) && decide (n ≤ (0 : Int)))) := Lib.hid rfl
  obtain ⟨B0, hB0⟩ : ∃ B0, B0 = (w.alloc (.cells #[.int .u8 2, .int .i64 at_, .int .i64 n, .string s, .slice la ll lc] 25)) := ⟨_, rfl⟩
  have K : KB F0 w B0 := by subst hB0; exact (KB.refl _ _).alloc _
  have c2 : B0.cell? ⟨w.heap.size, 2, none⟩ = some (.int .i64 n) := by subst hB0; exact new_cell _ _ _ 2
  have c3 : B0.cell? ⟨w.heap.size, 3, none⟩ = some (.string s) := by subst hB0; exact new_cell _ _ _ 3
  have HB0s : Hid (w.heap.size + 1 = B0.heap.size) := Lib.hid (by subst hB0; simp)
  have HB0 := Lib.hid hB0
  clear hB0
  have HT := Lib.hid (fun W (_ : KB F0 w W) => typeNameV s W hs)
  have HA := Lib.hid (fun W v (hk : KB F0 w W) (hv : ClsV W v (.kd [3])) => asked_any a l cap 1 8 v (.kd [3]) W hl (ha.kbF hk) hv)
  generalize askedB l 1 8 (.kd [3]) = b0 at HA Hr
  generalize typeNameB s = bN at HT Hr
  obtain ⟨b1, hb1⟩ : ∃ b, decide ((0 : Int) ≤ n) = b := ⟨_, rfl⟩
  obtain ⟨b2, hb2⟩ : ∃ b, decide (n ≤ (0 : Int)) = b := ⟨_, rfl⟩
  rw [hb1, hb2] at Hr
  clear ha _hT
  cases b0
  · go_enter Tryd.func61, Tryd.ntmps61
    go_wp2_with fail
    rw [← HB0.out]
    try rw [HB0s.out]
    refine (HT.out _ (K.trans (by repeat (first | exact KB.refl _ _ | refine KB.alloc ?_ _)))).mono ?_
    rintro e W1 ⟨rfl, hkk⟩
    have kk : KB F0 B0 W1 := KB.trans (by repeat (first | exact KB.refl _ _ | refine KB.alloc ?_ _)) hkk
    replace c2 := kk.cell (p := ⟨w.heap.size, 2, none⟩) (fun x => x) c2
    replace c3 := kk.cell (p := ⟨w.heap.size, 3, none⟩) (fun x => x) c3
    replace K := K.trans kk
    clear kk hkk
    go_wp2_with fail
    refine (kindCall (ks := [3]) _ (by decide) (alloc_new W1 _)).mono ?_
    rintro e W2 ⟨kb2, rfl, hc0, hkk⟩
    have kk : KB F0 W1 W2 := KB.trans (by repeat (first | exact KB.refl _ _ | refine KB.alloc ?_ _)) hkk
    replace c2 := kk.cell (p := ⟨w.heap.size, 2, none⟩) (fun x => x) c2
    replace c3 := kk.cell (p := ⟨w.heap.size, 3, none⟩) (fun x => x) c3
    replace K := K.trans kk
    clear kk hkk
    go_wp2_with fail
    refine (HA.out _ _ (K.trans (by repeat (first | exact KB.refl _ _ | refine KB.alloc ?_ _))) hc0).mono ?_
    rintro e W3 ⟨rfl, hkk⟩
    have kk : KB F0 W2 W3 := KB.trans (by repeat (first | exact KB.refl _ _ | refine KB.alloc ?_ _)) hkk
    replace c2 := kk.cell (p := ⟨w.heap.size, 2, none⟩) (fun x => x) c2
    replace c3 := kk.cell (p := ⟨w.heap.size, 3, none⟩) (fun x => x) c3
    replace K := K.trans kk
    clear kk hkk
    go_wp2_with fail
    go_ret
    exact ⟨ret_eq (by rw [Hr.out]; rfl), K⟩
  · cases bN
    · go_enter Tryd.func61, Tryd.ntmps61
      go_wp2_with fail
      rw [← HB0.out]
      try rw [HB0s.out]
      refine (HT.out _ (K.trans (by repeat (first | exact KB.refl _ _ | refine KB.alloc ?_ _)))).mono ?_
      rintro e W1 ⟨rfl, hkk⟩
      have kk : KB F0 B0 W1 := KB.trans (by repeat (first | exact KB.refl _ _ | refine KB.alloc ?_ _)) hkk
      replace c2 := kk.cell (p := ⟨w.heap.size, 2, none⟩) (fun x => x) c2
      replace c3 := kk.cell (p := ⟨w.heap.size, 3, none⟩) (fun x => x) c3
      replace K := K.trans kk
      clear kk hkk
      go_wp2_with fail
      refine (kindCall (ks := [3]) _ (by decide) (alloc_new W1 _)).mono ?_
      rintro e W2 ⟨kb2, rfl, hc0, hkk⟩
      have kk : KB F0 W1 W2 := KB.trans (by repeat (first | exact KB.refl _ _ | refine KB.alloc ?_ _)) hkk
      replace c2 := kk.cell (p := ⟨w.heap.size, 2, none⟩) (fun x => x) c2
      replace c3 := kk.cell (p := ⟨w.heap.size, 3, none⟩) (fun x => x) c3
      replace K := K.trans kk
      clear kk hkk
      go_wp2_with fail
      refine (HA.out _ _ (K.trans (by repeat (first | exact KB.refl _ _ | refine KB.alloc ?_ _))) hc0).mono ?_
      rintro e W3 ⟨rfl, hkk⟩
      have kk : KB F0 W2 W3 := KB.trans (by repeat (first | exact KB.refl _ _ | refine KB.alloc ?_ _)) hkk
      replace c2 := kk.cell (p := ⟨w.heap.size, 2, none⟩) (fun x => x) c2
      replace c3 := kk.cell (p := ⟨w.heap.size, 3, none⟩) (fun x => x) c3
      replace K := K.trans kk
      clear kk hkk
      go_wp2_with fail
      go_ret
      exact ⟨ret_eq (by rw [Hr.out]; rfl), K⟩
    · cases b1
      · go_enter Tryd.func61, Tryd.ntmps61
        go_wp2_with fail
        rw [← HB0.out]
        try rw [HB0s.out]
        refine (HT.out _ (K.trans (by repeat (first | exact KB.refl _ _ | refine KB.alloc ?_ _)))).mono ?_
        rintro e W1 ⟨rfl, hkk⟩
        have kk : KB F0 B0 W1 := KB.trans (by repeat (first | exact KB.refl _ _ | refine KB.alloc ?_ _)) hkk
        replace c2 := kk.cell (p := ⟨w.heap.size, 2, none⟩) (fun x => x) c2
        replace c3 := kk.cell (p := ⟨w.heap.size, 3, none⟩) (fun x => x) c3
        replace K := K.trans kk
        clear kk hkk
        go_wp2_with fail
        refine (kindCall (ks := [3]) _ (by decide) (alloc_new W1 _)).mono ?_
        rintro e W2 ⟨kb2, rfl, hc0, hkk⟩
        have kk : KB F0 W1 W2 := KB.trans (by repeat (first | exact KB.refl _ _ | refine KB.alloc ?_ _)) hkk
        replace c2 := kk.cell (p := ⟨w.heap.size, 2, none⟩) (fun x => x) c2
        replace c3 := kk.cell (p := ⟨w.heap.size, 3, none⟩) (fun x => x) c3
        replace K := K.trans kk
        clear kk hkk
        go_wp2_with fail
        refine (HA.out _ _ (K.trans (by repeat (first | exact KB.refl _ _ | refine KB.alloc ?_ _))) hc0).mono ?_
        rintro e W3 ⟨rfl, hkk⟩
        have kk : KB F0 W2 W3 := KB.trans (by repeat (first | exact KB.refl _ _ | refine KB.alloc ?_ _)) hkk
        replace c2 := kk.cell (p := ⟨w.heap.size, 2, none⟩) (fun x => x) c2
        replace c3 := kk.cell (p := ⟨w.heap.size, 3, none⟩) (fun x => x) c3
        replace K := K.trans kk
        clear kk hkk
        go_wp2_with fail
        go_ret
        exact ⟨ret_eq (by rw [Hr.out]; rfl), K⟩

      · cases b2
        · go_enter Tryd.func61, Tryd.ntmps61
          go_wp2_with fail
          rw [← HB0.out]
          try rw [HB0s.out]
          refine (HT.out _ (K.trans (by repeat (first | exact KB.refl _ _ | refine KB.alloc ?_ _)))).mono ?_
          rintro e W1 ⟨rfl, hkk⟩
          have kk : KB F0 B0 W1 := KB.trans (by repeat (first | exact KB.refl _ _ | refine KB.alloc ?_ _)) hkk
          replace c2 := kk.cell (p := ⟨w.heap.size, 2, none⟩) (fun x => x) c2
          replace c3 := kk.cell (p := ⟨w.heap.size, 3, none⟩) (fun x => x) c3
          replace K := K.trans kk
          clear kk hkk
          go_wp2_with fail
          refine (kindCall (ks := [3]) _ (by decide) (alloc_new W1 _)).mono ?_
          rintro e W2 ⟨kb2, rfl, hc0, hkk⟩
          have kk : KB F0 W1 W2 := KB.trans (by repeat (first | exact KB.refl _ _ | refine KB.alloc ?_ _)) hkk
          replace c2 := kk.cell (p := ⟨w.heap.size, 2, none⟩) (fun x => x) c2
          replace c3 := kk.cell (p := ⟨w.heap.size, 3, none⟩) (fun x => x) c3
          replace K := K.trans kk
          clear kk hkk
          go_wp2_with fail
          refine (HA.out _ _ (K.trans (by repeat (first | exact KB.refl _ _ | refine KB.alloc ?_ _))) hc0).mono ?_
          rintro e W3 ⟨rfl, hkk⟩
          have kk : KB F0 W2 W3 := KB.trans (by repeat (first | exact KB.refl _ _ | refine KB.alloc ?_ _)) hkk
          replace c2 := kk.cell (p := ⟨w.heap.size, 2, none⟩) (fun x => x) c2
          replace c3 := kk.cell (p := ⟨w.heap.size, 3, none⟩) (fun x => x) c3
          replace K := K.trans kk
          clear kk hkk
          go_wp2_with fail
          go_ret
          exact ⟨ret_eq (by rw [Hr.out]; rfl), K⟩

        · go_enter Tryd.func61, Tryd.ntmps61
          go_wp2_with fail
          rw [← HB0.out]
          try rw [HB0s.out]
          refine (HT.out _ (K.trans (by repeat (first | exact KB.refl _ _ | refine KB.alloc ?_ _)))).mono ?_
          rintro e W1 ⟨rfl, hkk⟩
          have kk : KB F0 B0 W1 := KB.trans (by repeat (first | exact KB.refl _ _ | refine KB.alloc ?_ _)) hkk
          replace c2 := kk.cell (p := ⟨w.heap.size, 2, none⟩) (fun x => x) c2
          replace c3 := kk.cell (p := ⟨w.heap.size, 3, none⟩) (fun x => x) c3
          replace K := K.trans kk
          clear kk hkk
          go_wp2_with fail
          refine (kindCall (ks := [3]) _ (by decide) (alloc_new W1 _)).mono ?_
          rintro e W2 ⟨kb2, rfl, hc0, hkk⟩
          have kk : KB F0 W1 W2 := KB.trans (by repeat (first | exact KB.refl _ _ | refine KB.alloc ?_ _)) hkk
          replace c2 := kk.cell (p := ⟨w.heap.size, 2, none⟩) (fun x => x) c2
          replace c3 := kk.cell (p := ⟨w.heap.size, 3, none⟩) (fun x => x) c3
          replace K := K.trans kk
          clear kk hkk
          go_wp2_with fail
          refine (HA.out _ _ (K.trans (by repeat (first | exact KB.refl _ _ | refine KB.alloc ?_ _))) hc0).mono ?_
          rintro e W3 ⟨rfl, hkk⟩
          have kk : KB F0 W2 W3 := KB.trans (by repeat (first | exact KB.refl _ _ | refine KB.alloc ?_ _)) hkk
          replace c2 := kk.cell (p := ⟨w.heap.size, 2, none⟩) (fun x => x) c2
          replace c3 := kk.cell (p := ⟨w.heap.size, 3, none⟩) (fun x => x) c3
          replace K := K.trans kk
          clear kk hkk
          go_wp2_with fail
          go_ret
          exact ⟨ret_eq (by rw [Hr.out]; rfl), K⟩

set_option maxRecDepth 100000 in
set_option maxHeartbeats 4000000 in
theorem asks_3 (at_ n : Int) (s : ByteArray) (la : Option Addr) (ll lc : Nat) (a : Option Addr) (l : List Nat) (cap : Nat) (w : World) (hs : s.size ≤ 9223372036854775807) (hl : l.length ≤ 9223372036854775807) (ha : KindsAt w a l) (hT : Tab w) (_hn1 : -9223372036854775808 ≤ n) (_hn2 : n ≤ 9223372036854775807) :
    Calls Tryd.prog 61 #[.agg #[.int .u8 3, .int .i64 at_, .int .i64 n, .string s, .slice la ll lc], .slice a l.length cap] w fun e w' => e = .returned (.bool (askB 3 n s l)) ∧ KB F0 w w' := by
  have Hr : Hid (askB 3 n s l = (justB l [.ty] && nameB s && decide ((0 : Int) ≤ n) && decide (n ≤ (0 : Int)))) := Lib.hid rfl
  obtain ⟨B0, hB0⟩ : ∃ B0, B0 = (w.alloc (.cells #[.int .u8 3, .int .i64 at_, .int .i64 n, .string s, .slice la ll lc] 25)) := ⟨_, rfl⟩
  have K : KB F0 w B0 := by subst hB0; exact (KB.refl _ _).alloc _
  have c2 : B0.cell? ⟨w.heap.size, 2, none⟩ = some (.int .i64 n) := by subst hB0; exact new_cell _ _ _ 2
  have c3 : B0.cell? ⟨w.heap.size, 3, none⟩ = some (.string s) := by subst hB0; exact new_cell _ _ _ 3
  have HB0s : Hid (w.heap.size + 1 = B0.heap.size) := Lib.hid (by subst hB0; simp)
  have HB0 := Lib.hid hB0
  clear hB0
  have HN := Lib.hid (fun W (hk : KB F0 w W) => name_any s W hs (hT.kb hk))
  have HJ := Lib.hid (fun W a2 cap2 (hk : KB F0 w W) (hc : ClsAt W a2 [.ty]) => justV a a2 l [.ty] cap cap2 W hl (by decide) (ha.kbF hk) hc)
  generalize justB l [.ty] = b0 at HJ Hr
  generalize nameB s = bN at HN Hr
  obtain ⟨b1, hb1⟩ : ∃ b, decide ((0 : Int) ≤ n) = b := ⟨_, rfl⟩
  obtain ⟨b2, hb2⟩ : ∃ b, decide (n ≤ (0 : Int)) = b := ⟨_, rfl⟩
  rw [hb1, hb2] at Hr
  clear ha hT
  cases b0
  · go_enter Tryd.func61, Tryd.ntmps61
    go_wp2_with fail
    rw [← HB0.out]
    try rw [HB0s.out]
    refine (HN.out _ (K.trans (by repeat (first | exact KB.refl _ _ | refine KB.alloc ?_ _)))).mono ?_
    rintro e W1 ⟨rfl, hkk⟩
    have kk : KB F0 B0 W1 := KB.trans (by repeat (first | exact KB.refl _ _ | refine KB.alloc ?_ _)) hkk
    replace c2 := kk.cell (p := ⟨w.heap.size, 2, none⟩) (fun x => x) c2
    replace c3 := kk.cell (p := ⟨w.heap.size, 3, none⟩) (fun x => x) c3
    replace K := K.trans kk
    clear kk hkk
    go_wp2_with fail
    refine (HJ.out _ _ _ (K.trans (by repeat (first | exact KB.refl _ _ | refine KB.alloc ?_ _))) (clsat1 (W := W1) (show ClsV _ (.func (.func 69) #[] #[]) .ty from rfl))).mono ?_
    rintro e W2 ⟨rfl, hkk⟩
    have kk : KB F0 W1 W2 := KB.trans (by repeat (first | exact KB.refl _ _ | refine KB.alloc ?_ _)) hkk
    replace c2 := kk.cell (p := ⟨w.heap.size, 2, none⟩) (fun x => x) c2
    replace c3 := kk.cell (p := ⟨w.heap.size, 3, none⟩) (fun x => x) c3
    replace K := K.trans kk
    clear kk hkk
    go_wp2_with fail
    go_ret
    exact ⟨ret_eq (by rw [Hr.out]; rfl), K⟩
  · cases bN
    · go_enter Tryd.func61, Tryd.ntmps61
      go_wp2_with fail
      rw [← HB0.out]
      try rw [HB0s.out]
      refine (HN.out _ (K.trans (by repeat (first | exact KB.refl _ _ | refine KB.alloc ?_ _)))).mono ?_
      rintro e W1 ⟨rfl, hkk⟩
      have kk : KB F0 B0 W1 := KB.trans (by repeat (first | exact KB.refl _ _ | refine KB.alloc ?_ _)) hkk
      replace c2 := kk.cell (p := ⟨w.heap.size, 2, none⟩) (fun x => x) c2
      replace c3 := kk.cell (p := ⟨w.heap.size, 3, none⟩) (fun x => x) c3
      replace K := K.trans kk
      clear kk hkk
      go_wp2_with fail
      refine (HJ.out _ _ _ (K.trans (by repeat (first | exact KB.refl _ _ | refine KB.alloc ?_ _))) (clsat1 (W := W1) (show ClsV _ (.func (.func 69) #[] #[]) .ty from rfl))).mono ?_
      rintro e W2 ⟨rfl, hkk⟩
      have kk : KB F0 W1 W2 := KB.trans (by repeat (first | exact KB.refl _ _ | refine KB.alloc ?_ _)) hkk
      replace c2 := kk.cell (p := ⟨w.heap.size, 2, none⟩) (fun x => x) c2
      replace c3 := kk.cell (p := ⟨w.heap.size, 3, none⟩) (fun x => x) c3
      replace K := K.trans kk
      clear kk hkk
      go_wp2_with fail
      go_ret
      exact ⟨ret_eq (by rw [Hr.out]; rfl), K⟩
    · cases b1
      · go_enter Tryd.func61, Tryd.ntmps61
        go_wp2_with fail
        rw [← HB0.out]
        try rw [HB0s.out]
        refine (HN.out _ (K.trans (by repeat (first | exact KB.refl _ _ | refine KB.alloc ?_ _)))).mono ?_
        rintro e W1 ⟨rfl, hkk⟩
        have kk : KB F0 B0 W1 := KB.trans (by repeat (first | exact KB.refl _ _ | refine KB.alloc ?_ _)) hkk
        replace c2 := kk.cell (p := ⟨w.heap.size, 2, none⟩) (fun x => x) c2
        replace c3 := kk.cell (p := ⟨w.heap.size, 3, none⟩) (fun x => x) c3
        replace K := K.trans kk
        clear kk hkk
        go_wp2_with fail
        refine (HJ.out _ _ _ (K.trans (by repeat (first | exact KB.refl _ _ | refine KB.alloc ?_ _))) (clsat1 (W := W1) (show ClsV _ (.func (.func 69) #[] #[]) .ty from rfl))).mono ?_
        rintro e W2 ⟨rfl, hkk⟩
        have kk : KB F0 W1 W2 := KB.trans (by repeat (first | exact KB.refl _ _ | refine KB.alloc ?_ _)) hkk
        replace c2 := kk.cell (p := ⟨w.heap.size, 2, none⟩) (fun x => x) c2
        replace c3 := kk.cell (p := ⟨w.heap.size, 3, none⟩) (fun x => x) c3
        replace K := K.trans kk
        clear kk hkk
        go_wp2_with fail
        go_ret
        exact ⟨ret_eq (by rw [Hr.out]; rfl), K⟩

      · cases b2
        · go_enter Tryd.func61, Tryd.ntmps61
          go_wp2_with fail
          rw [← HB0.out]
          try rw [HB0s.out]
          refine (HN.out _ (K.trans (by repeat (first | exact KB.refl _ _ | refine KB.alloc ?_ _)))).mono ?_
          rintro e W1 ⟨rfl, hkk⟩
          have kk : KB F0 B0 W1 := KB.trans (by repeat (first | exact KB.refl _ _ | refine KB.alloc ?_ _)) hkk
          replace c2 := kk.cell (p := ⟨w.heap.size, 2, none⟩) (fun x => x) c2
          replace c3 := kk.cell (p := ⟨w.heap.size, 3, none⟩) (fun x => x) c3
          replace K := K.trans kk
          clear kk hkk
          go_wp2_with fail
          refine (HJ.out _ _ _ (K.trans (by repeat (first | exact KB.refl _ _ | refine KB.alloc ?_ _))) (clsat1 (W := W1) (show ClsV _ (.func (.func 69) #[] #[]) .ty from rfl))).mono ?_
          rintro e W2 ⟨rfl, hkk⟩
          have kk : KB F0 W1 W2 := KB.trans (by repeat (first | exact KB.refl _ _ | refine KB.alloc ?_ _)) hkk
          replace c2 := kk.cell (p := ⟨w.heap.size, 2, none⟩) (fun x => x) c2
          replace c3 := kk.cell (p := ⟨w.heap.size, 3, none⟩) (fun x => x) c3
          replace K := K.trans kk
          clear kk hkk
          go_wp2_with fail
          go_ret
          exact ⟨ret_eq (by rw [Hr.out]; rfl), K⟩

        · go_enter Tryd.func61, Tryd.ntmps61
          go_wp2_with fail
          rw [← HB0.out]
          try rw [HB0s.out]
          refine (HN.out _ (K.trans (by repeat (first | exact KB.refl _ _ | refine KB.alloc ?_ _)))).mono ?_
          rintro e W1 ⟨rfl, hkk⟩
          have kk : KB F0 B0 W1 := KB.trans (by repeat (first | exact KB.refl _ _ | refine KB.alloc ?_ _)) hkk
          replace c2 := kk.cell (p := ⟨w.heap.size, 2, none⟩) (fun x => x) c2
          replace c3 := kk.cell (p := ⟨w.heap.size, 3, none⟩) (fun x => x) c3
          replace K := K.trans kk
          clear kk hkk
          go_wp2_with fail
          refine (HJ.out _ _ _ (K.trans (by repeat (first | exact KB.refl _ _ | refine KB.alloc ?_ _))) (clsat1 (W := W1) (show ClsV _ (.func (.func 69) #[] #[]) .ty from rfl))).mono ?_
          rintro e W2 ⟨rfl, hkk⟩
          have kk : KB F0 W1 W2 := KB.trans (by repeat (first | exact KB.refl _ _ | refine KB.alloc ?_ _)) hkk
          replace c2 := kk.cell (p := ⟨w.heap.size, 2, none⟩) (fun x => x) c2
          replace c3 := kk.cell (p := ⟨w.heap.size, 3, none⟩) (fun x => x) c3
          replace K := K.trans kk
          clear kk hkk
          go_wp2_with fail
          go_ret
          exact ⟨ret_eq (by rw [Hr.out]; rfl), K⟩

set_option maxRecDepth 100000 in
set_option maxHeartbeats 4000000 in
theorem asks_5 (at_ n : Int) (s : ByteArray) (la : Option Addr) (ll lc : Nat) (a : Option Addr) (l : List Nat) (cap : Nat) (w : World) (hs : s.size ≤ 9223372036854775807) (hl : l.length ≤ 9223372036854775807) (ha : KindsAt w a l) (hT : Tab w) (_hn1 : -9223372036854775808 ≤ n) (_hn2 : n ≤ 9223372036854775807) :
    Calls Tryd.prog 61 #[.agg #[.int .u8 5, .int .i64 at_, .int .i64 n, .string s, .slice la ll lc], .slice a l.length cap] w fun e w' => e = .returned (.bool (askB 5 n s l)) ∧ KB F0 w w' := by
  have Hr : Hid (askB 5 n s l = (askedB l 0 8 (.kd [6]) && nameB s && decide ((0 : Int) ≤ n) && decide (n ≤ (0 : Int)))) := Lib.hid rfl
  obtain ⟨B0, hB0⟩ : ∃ B0, B0 = (w.alloc (.cells #[.int .u8 5, .int .i64 at_, .int .i64 n, .string s, .slice la ll lc] 25)) := ⟨_, rfl⟩
  have K : KB F0 w B0 := by subst hB0; exact (KB.refl _ _).alloc _
  have c2 : B0.cell? ⟨w.heap.size, 2, none⟩ = some (.int .i64 n) := by subst hB0; exact new_cell _ _ _ 2
  have c3 : B0.cell? ⟨w.heap.size, 3, none⟩ = some (.string s) := by subst hB0; exact new_cell _ _ _ 3
  have HB0s : Hid (w.heap.size + 1 = B0.heap.size) := Lib.hid (by subst hB0; simp)
  have HB0 := Lib.hid hB0
  clear hB0
  have HN := Lib.hid (fun W (hk : KB F0 w W) => name_any s W hs (hT.kb hk))
  have HA := Lib.hid (fun W v (hk : KB F0 w W) (hv : ClsV W v (.kd [6])) => asked_any a l cap 0 8 v (.kd [6]) W hl (ha.kbF hk) hv)
  generalize askedB l 0 8 (.kd [6]) = b0 at HA Hr
  generalize nameB s = bN at HN Hr
  obtain ⟨b1, hb1⟩ : ∃ b, decide ((0 : Int) ≤ n) = b := ⟨_, rfl⟩
  obtain ⟨b2, hb2⟩ : ∃ b, decide (n ≤ (0 : Int)) = b := ⟨_, rfl⟩
  rw [hb1, hb2] at Hr
  clear ha hT
  cases b0
  · go_enter Tryd.func61, Tryd.ntmps61
    go_wp2_with fail
    rw [← HB0.out]
    try rw [HB0s.out]
    refine (HN.out _ (K.trans (by repeat (first | exact KB.refl _ _ | refine KB.alloc ?_ _)))).mono ?_
    rintro e W1 ⟨rfl, hkk⟩
    have kk : KB F0 B0 W1 := KB.trans (by repeat (first | exact KB.refl _ _ | refine KB.alloc ?_ _)) hkk
    replace c2 := kk.cell (p := ⟨w.heap.size, 2, none⟩) (fun x => x) c2
    replace c3 := kk.cell (p := ⟨w.heap.size, 3, none⟩) (fun x => x) c3
    replace K := K.trans kk
    clear kk hkk
    go_wp2_with fail
    refine (kindCall (ks := [6]) _ (by decide) (alloc_new W1 _)).mono ?_
    rintro e W2 ⟨kb2, rfl, hc0, hkk⟩
    have kk : KB F0 W1 W2 := KB.trans (by repeat (first | exact KB.refl _ _ | refine KB.alloc ?_ _)) hkk
    replace c2 := kk.cell (p := ⟨w.heap.size, 2, none⟩) (fun x => x) c2
    replace c3 := kk.cell (p := ⟨w.heap.size, 3, none⟩) (fun x => x) c3
    replace K := K.trans kk
    clear kk hkk
    go_wp2_with fail
    refine (HA.out _ _ (K.trans (by repeat (first | exact KB.refl _ _ | refine KB.alloc ?_ _))) hc0).mono ?_
    rintro e W3 ⟨rfl, hkk⟩
    have kk : KB F0 W2 W3 := KB.trans (by repeat (first | exact KB.refl _ _ | refine KB.alloc ?_ _)) hkk
    replace c2 := kk.cell (p := ⟨w.heap.size, 2, none⟩) (fun x => x) c2
    replace c3 := kk.cell (p := ⟨w.heap.size, 3, none⟩) (fun x => x) c3
    replace K := K.trans kk
    clear kk hkk
    go_wp2_with fail
    go_ret
    exact ⟨ret_eq (by rw [Hr.out]; rfl), K⟩
  · cases bN
    · go_enter Tryd.func61, Tryd.ntmps61
      go_wp2_with fail
      rw [← HB0.out]
      try rw [HB0s.out]
      refine (HN.out _ (K.trans (by repeat (first | exact KB.refl _ _ | refine KB.alloc ?_ _)))).mono ?_
      rintro e W1 ⟨rfl, hkk⟩
      have kk : KB F0 B0 W1 := KB.trans (by repeat (first | exact KB.refl _ _ | refine KB.alloc ?_ _)) hkk
      replace c2 := kk.cell (p := ⟨w.heap.size, 2, none⟩) (fun x => x) c2
      replace c3 := kk.cell (p := ⟨w.heap.size, 3, none⟩) (fun x => x) c3
      replace K := K.trans kk
      clear kk hkk
      go_wp2_with fail
      refine (kindCall (ks := [6]) _ (by decide) (alloc_new W1 _)).mono ?_
      rintro e W2 ⟨kb2, rfl, hc0, hkk⟩
      have kk : KB F0 W1 W2 := KB.trans (by repeat (first | exact KB.refl _ _ | refine KB.alloc ?_ _)) hkk
      replace c2 := kk.cell (p := ⟨w.heap.size, 2, none⟩) (fun x => x) c2
      replace c3 := kk.cell (p := ⟨w.heap.size, 3, none⟩) (fun x => x) c3
      replace K := K.trans kk
      clear kk hkk
      go_wp2_with fail
      refine (HA.out _ _ (K.trans (by repeat (first | exact KB.refl _ _ | refine KB.alloc ?_ _))) hc0).mono ?_
      rintro e W3 ⟨rfl, hkk⟩
      have kk : KB F0 W2 W3 := KB.trans (by repeat (first | exact KB.refl _ _ | refine KB.alloc ?_ _)) hkk
      replace c2 := kk.cell (p := ⟨w.heap.size, 2, none⟩) (fun x => x) c2
      replace c3 := kk.cell (p := ⟨w.heap.size, 3, none⟩) (fun x => x) c3
      replace K := K.trans kk
      clear kk hkk
      go_wp2_with fail
      go_ret
      exact ⟨ret_eq (by rw [Hr.out]; rfl), K⟩
    · cases b1
      · go_enter Tryd.func61, Tryd.ntmps61
        go_wp2_with fail
        rw [← HB0.out]
        try rw [HB0s.out]
        refine (HN.out _ (K.trans (by repeat (first | exact KB.refl _ _ | refine KB.alloc ?_ _)))).mono ?_
        rintro e W1 ⟨rfl, hkk⟩
        have kk : KB F0 B0 W1 := KB.trans (by repeat (first | exact KB.refl _ _ | refine KB.alloc ?_ _)) hkk
        replace c2 := kk.cell (p := ⟨w.heap.size, 2, none⟩) (fun x => x) c2
        replace c3 := kk.cell (p := ⟨w.heap.size, 3, none⟩) (fun x => x) c3
        replace K := K.trans kk
        clear kk hkk
        go_wp2_with fail
        refine (kindCall (ks := [6]) _ (by decide) (alloc_new W1 _)).mono ?_
        rintro e W2 ⟨kb2, rfl, hc0, hkk⟩
        have kk : KB F0 W1 W2 := KB.trans (by repeat (first | exact KB.refl _ _ | refine KB.alloc ?_ _)) hkk
        replace c2 := kk.cell (p := ⟨w.heap.size, 2, none⟩) (fun x => x) c2
        replace c3 := kk.cell (p := ⟨w.heap.size, 3, none⟩) (fun x => x) c3
        replace K := K.trans kk
        clear kk hkk
        go_wp2_with fail
        refine (HA.out _ _ (K.trans (by repeat (first | exact KB.refl _ _ | refine KB.alloc ?_ _))) hc0).mono ?_
        rintro e W3 ⟨rfl, hkk⟩
        have kk : KB F0 W2 W3 := KB.trans (by repeat (first | exact KB.refl _ _ | refine KB.alloc ?_ _)) hkk
        replace c2 := kk.cell (p := ⟨w.heap.size, 2, none⟩) (fun x => x) c2
        replace c3 := kk.cell (p := ⟨w.heap.size, 3, none⟩) (fun x => x) c3
        replace K := K.trans kk
        clear kk hkk
        go_wp2_with fail
        go_ret
        exact ⟨ret_eq (by rw [Hr.out]; rfl), K⟩

      · cases b2
        · go_enter Tryd.func61, Tryd.ntmps61
          go_wp2_with fail
          rw [← HB0.out]
          try rw [HB0s.out]
          refine (HN.out _ (K.trans (by repeat (first | exact KB.refl _ _ | refine KB.alloc ?_ _)))).mono ?_
          rintro e W1 ⟨rfl, hkk⟩
          have kk : KB F0 B0 W1 := KB.trans (by repeat (first | exact KB.refl _ _ | refine KB.alloc ?_ _)) hkk
          replace c2 := kk.cell (p := ⟨w.heap.size, 2, none⟩) (fun x => x) c2
          replace c3 := kk.cell (p := ⟨w.heap.size, 3, none⟩) (fun x => x) c3
          replace K := K.trans kk
          clear kk hkk
          go_wp2_with fail
          refine (kindCall (ks := [6]) _ (by decide) (alloc_new W1 _)).mono ?_
          rintro e W2 ⟨kb2, rfl, hc0, hkk⟩
          have kk : KB F0 W1 W2 := KB.trans (by repeat (first | exact KB.refl _ _ | refine KB.alloc ?_ _)) hkk
          replace c2 := kk.cell (p := ⟨w.heap.size, 2, none⟩) (fun x => x) c2
          replace c3 := kk.cell (p := ⟨w.heap.size, 3, none⟩) (fun x => x) c3
          replace K := K.trans kk
          clear kk hkk
          go_wp2_with fail
          refine (HA.out _ _ (K.trans (by repeat (first | exact KB.refl _ _ | refine KB.alloc ?_ _))) hc0).mono ?_
          rintro e W3 ⟨rfl, hkk⟩
          have kk : KB F0 W2 W3 := KB.trans (by repeat (first | exact KB.refl _ _ | refine KB.alloc ?_ _)) hkk
          replace c2 := kk.cell (p := ⟨w.heap.size, 2, none⟩) (fun x => x) c2
          replace c3 := kk.cell (p := ⟨w.heap.size, 3, none⟩) (fun x => x) c3
          replace K := K.trans kk
          clear kk hkk
          go_wp2_with fail
          go_ret
          exact ⟨ret_eq (by rw [Hr.out]; rfl), K⟩

        · go_enter Tryd.func61, Tryd.ntmps61
          go_wp2_with fail
          rw [← HB0.out]
          try rw [HB0s.out]
          refine (HN.out _ (K.trans (by repeat (first | exact KB.refl _ _ | refine KB.alloc ?_ _)))).mono ?_
          rintro e W1 ⟨rfl, hkk⟩
          have kk : KB F0 B0 W1 := KB.trans (by repeat (first | exact KB.refl _ _ | refine KB.alloc ?_ _)) hkk
          replace c2 := kk.cell (p := ⟨w.heap.size, 2, none⟩) (fun x => x) c2
          replace c3 := kk.cell (p := ⟨w.heap.size, 3, none⟩) (fun x => x) c3
          replace K := K.trans kk
          clear kk hkk
          go_wp2_with fail
          refine (kindCall (ks := [6]) _ (by decide) (alloc_new W1 _)).mono ?_
          rintro e W2 ⟨kb2, rfl, hc0, hkk⟩
          have kk : KB F0 W1 W2 := KB.trans (by repeat (first | exact KB.refl _ _ | refine KB.alloc ?_ _)) hkk
          replace c2 := kk.cell (p := ⟨w.heap.size, 2, none⟩) (fun x => x) c2
          replace c3 := kk.cell (p := ⟨w.heap.size, 3, none⟩) (fun x => x) c3
          replace K := K.trans kk
          clear kk hkk
          go_wp2_with fail
          refine (HA.out _ _ (K.trans (by repeat (first | exact KB.refl _ _ | refine KB.alloc ?_ _))) hc0).mono ?_
          rintro e W3 ⟨rfl, hkk⟩
          have kk : KB F0 W2 W3 := KB.trans (by repeat (first | exact KB.refl _ _ | refine KB.alloc ?_ _)) hkk
          replace c2 := kk.cell (p := ⟨w.heap.size, 2, none⟩) (fun x => x) c2
          replace c3 := kk.cell (p := ⟨w.heap.size, 3, none⟩) (fun x => x) c3
          replace K := K.trans kk
          clear kk hkk
          go_wp2_with fail
          go_ret
          exact ⟨ret_eq (by rw [Hr.out]; rfl), K⟩

set_option maxRecDepth 100000 in
set_option maxHeartbeats 4000000 in
theorem asks_6 (at_ n : Int) (s : ByteArray) (la : Option Addr) (ll lc : Nat) (a : Option Addr) (l : List Nat) (cap : Nat) (w : World) (hs : s.size ≤ 9223372036854775807) (_hl : l.length ≤ 9223372036854775807) (_ha : KindsAt w a l) (hT : Tab w) (_hn1 : -9223372036854775808 ≤ n) (_hn2 : n ≤ 9223372036854775807) :
    Calls Tryd.prog 61 #[.agg #[.int .u8 6, .int .i64 at_, .int .i64 n, .string s, .slice la ll lc], .slice a l.length cap] w fun e w' => e = .returned (.bool (askB 6 n s l)) ∧ KB F0 w w' := by
  have Hr : Hid (askB 6 n s l = (len0B l && nameB s && decide ((0 : Int) ≤ n) && decide (n ≤ (0 : Int)))) := Lib.hid rfl
  obtain ⟨B0, hB0⟩ : ∃ B0, B0 = (w.alloc (.cells #[.int .u8 6, .int .i64 at_, .int .i64 n, .string s, .slice la ll lc] 25)) := ⟨_, rfl⟩
  have K : KB F0 w B0 := by subst hB0; exact (KB.refl _ _).alloc _
  have c2 : B0.cell? ⟨w.heap.size, 2, none⟩ = some (.int .i64 n) := by subst hB0; exact new_cell _ _ _ 2
  have c3 : B0.cell? ⟨w.heap.size, 3, none⟩ = some (.string s) := by subst hB0; exact new_cell _ _ _ 3
  have HB0s : Hid (w.heap.size + 1 = B0.heap.size) := Lib.hid (by subst hB0; simp)
  have HB0 := Lib.hid hB0
  clear hB0
  have HN := Lib.hid (fun W (hk : KB F0 w W) => name_any s W hs (hT.kb hk))
  have t0 : ((l.length : Int) == 0) = len0B l := deq1 rfl
  generalize len0B l = b0 at t0 Hr
  generalize nameB s = bN at HN Hr
  obtain ⟨b1, hb1⟩ : ∃ b, decide ((0 : Int) ≤ n) = b := ⟨_, rfl⟩
  obtain ⟨b2, hb2⟩ : ∃ b, decide (n ≤ (0 : Int)) = b := ⟨_, rfl⟩
  rw [hb1, hb2] at Hr
  clear _ha hT
  cases b0
  · go_enter Tryd.func61, Tryd.ntmps61
    go_wp2_with fail
    rw [← HB0.out]
    try rw [HB0s.out]
    refine (HN.out _ (K.trans (by repeat (first | exact KB.refl _ _ | refine KB.alloc ?_ _)))).mono ?_
    rintro e W1 ⟨rfl, hkk⟩
    have kk : KB F0 B0 W1 := KB.trans (by repeat (first | exact KB.refl _ _ | refine KB.alloc ?_ _)) hkk
    replace c2 := kk.cell (p := ⟨w.heap.size, 2, none⟩) (fun x => x) c2
    replace c3 := kk.cell (p := ⟨w.heap.size, 3, none⟩) (fun x => x) c3
    replace K := K.trans kk
    clear kk hkk
    go_wp2_with fail
    go_ret
    exact ⟨ret_eq (by rw [Hr.out]; rfl), K⟩
  · cases bN
    · go_enter Tryd.func61, Tryd.ntmps61
      go_wp2_with fail
      rw [← HB0.out]
      try rw [HB0s.out]
      refine (HN.out _ (K.trans (by repeat (first | exact KB.refl _ _ | refine KB.alloc ?_ _)))).mono ?_
      rintro e W1 ⟨rfl, hkk⟩
      have kk : KB F0 B0 W1 := KB.trans (by repeat (first | exact KB.refl _ _ | refine KB.alloc ?_ _)) hkk
      replace c2 := kk.cell (p := ⟨w.heap.size, 2, none⟩) (fun x => x) c2
      replace c3 := kk.cell (p := ⟨w.heap.size, 3, none⟩) (fun x => x) c3
      replace K := K.trans kk
      clear kk hkk
      go_wp2_with fail
      go_ret
      exact ⟨ret_eq (by rw [Hr.out]; rfl), K⟩
    · cases b1
      · go_enter Tryd.func61, Tryd.ntmps61
        go_wp2_with fail
        rw [← HB0.out]
        try rw [HB0s.out]
        refine (HN.out _ (K.trans (by repeat (first | exact KB.refl _ _ | refine KB.alloc ?_ _)))).mono ?_
        rintro e W1 ⟨rfl, hkk⟩
        have kk : KB F0 B0 W1 := KB.trans (by repeat (first | exact KB.refl _ _ | refine KB.alloc ?_ _)) hkk
        replace c2 := kk.cell (p := ⟨w.heap.size, 2, none⟩) (fun x => x) c2
        replace c3 := kk.cell (p := ⟨w.heap.size, 3, none⟩) (fun x => x) c3
        replace K := K.trans kk
        clear kk hkk
        go_wp2_with fail
        go_ret
        exact ⟨ret_eq (by rw [Hr.out]; rfl), K⟩

      · cases b2
        · go_enter Tryd.func61, Tryd.ntmps61
          go_wp2_with fail
          rw [← HB0.out]
          try rw [HB0s.out]
          refine (HN.out _ (K.trans (by repeat (first | exact KB.refl _ _ | refine KB.alloc ?_ _)))).mono ?_
          rintro e W1 ⟨rfl, hkk⟩
          have kk : KB F0 B0 W1 := KB.trans (by repeat (first | exact KB.refl _ _ | refine KB.alloc ?_ _)) hkk
          replace c2 := kk.cell (p := ⟨w.heap.size, 2, none⟩) (fun x => x) c2
          replace c3 := kk.cell (p := ⟨w.heap.size, 3, none⟩) (fun x => x) c3
          replace K := K.trans kk
          clear kk hkk
          go_wp2_with fail
          go_ret
          exact ⟨ret_eq (by rw [Hr.out]; rfl), K⟩

        · go_enter Tryd.func61, Tryd.ntmps61
          go_wp2_with fail
          rw [← HB0.out]
          try rw [HB0s.out]
          refine (HN.out _ (K.trans (by repeat (first | exact KB.refl _ _ | refine KB.alloc ?_ _)))).mono ?_
          rintro e W1 ⟨rfl, hkk⟩
          have kk : KB F0 B0 W1 := KB.trans (by repeat (first | exact KB.refl _ _ | refine KB.alloc ?_ _)) hkk
          replace c2 := kk.cell (p := ⟨w.heap.size, 2, none⟩) (fun x => x) c2
          replace c3 := kk.cell (p := ⟨w.heap.size, 3, none⟩) (fun x => x) c3
          replace K := K.trans kk
          clear kk hkk
          go_wp2_with fail
          go_ret
          exact ⟨ret_eq (by rw [Hr.out]; rfl), K⟩

set_option maxRecDepth 100000 in
set_option maxHeartbeats 4000000 in
theorem asks_7 (at_ n : Int) (s : ByteArray) (la : Option Addr) (ll lc : Nat) (a : Option Addr) (l : List Nat) (cap : Nat) (w : World) (hs : s.size ≤ 9223372036854775807) (hl : l.length ≤ 9223372036854775807) (ha : KindsAt w a l) (hT : Tab w) (_hn1 : -9223372036854775808 ≤ n) (_hn2 : n ≤ 9223372036854775807) :
    Calls Tryd.prog 61 #[.agg #[.int .u8 7, .int .i64 at_, .int .i64 n, .string s, .slice la ll lc], .slice a l.length cap] w fun e w' => e = .returned (.bool (askB 7 n s l)) ∧ KB F0 w w' := by
  have Hr : Hid (askB 7 n s l = (justB l [.ty] && nameB s && decide ((0 : Int) ≤ n) && decide (n ≤ (0 : Int)))) := Lib.hid rfl
  obtain ⟨B0, hB0⟩ : ∃ B0, B0 = (w.alloc (.cells #[.int .u8 7, .int .i64 at_, .int .i64 n, .string s, .slice la ll lc] 25)) := ⟨_, rfl⟩
  have K : KB F0 w B0 := by subst hB0; exact (KB.refl _ _).alloc _
  have c2 : B0.cell? ⟨w.heap.size, 2, none⟩ = some (.int .i64 n) := by subst hB0; exact new_cell _ _ _ 2
  have c3 : B0.cell? ⟨w.heap.size, 3, none⟩ = some (.string s) := by subst hB0; exact new_cell _ _ _ 3
  have HB0s : Hid (w.heap.size + 1 = B0.heap.size) := Lib.hid (by subst hB0; simp)
  have HB0 := Lib.hid hB0
  clear hB0
  have HN := Lib.hid (fun W (hk : KB F0 w W) => name_any s W hs (hT.kb hk))
  have HJ := Lib.hid (fun W a2 cap2 (hk : KB F0 w W) (hc : ClsAt W a2 [.ty]) => justV a a2 l [.ty] cap cap2 W hl (by decide) (ha.kbF hk) hc)
  generalize justB l [.ty] = b0 at HJ Hr
  generalize nameB s = bN at HN Hr
  obtain ⟨b1, hb1⟩ : ∃ b, decide ((0 : Int) ≤ n) = b := ⟨_, rfl⟩
  obtain ⟨b2, hb2⟩ : ∃ b, decide (n ≤ (0 : Int)) = b := ⟨_, rfl⟩
  rw [hb1, hb2] at Hr
  clear ha hT
  cases b0
  · go_enter Tryd.func61, Tryd.ntmps61
    go_wp2_with fail
    rw [← HB0.out]
    try rw [HB0s.out]
    refine (HN.out _ (K.trans (by repeat (first | exact KB.refl _ _ | refine KB.alloc ?_ _)))).mono ?_
    rintro e W1 ⟨rfl, hkk⟩
    have kk : KB F0 B0 W1 := KB.trans (by repeat (first | exact KB.refl _ _ | refine KB.alloc ?_ _)) hkk
    replace c2 := kk.cell (p := ⟨w.heap.size, 2, none⟩) (fun x => x) c2
    replace c3 := kk.cell (p := ⟨w.heap.size, 3, none⟩) (fun x => x) c3
    replace K := K.trans kk
    clear kk hkk
    go_wp2_with fail
    refine (HJ.out _ _ _ (K.trans (by repeat (first | exact KB.refl _ _ | refine KB.alloc ?_ _))) (clsat1 (W := W1) (show ClsV _ (.func (.func 69) #[] #[]) .ty from rfl))).mono ?_
    rintro e W2 ⟨rfl, hkk⟩
    have kk : KB F0 W1 W2 := KB.trans (by repeat (first | exact KB.refl _ _ | refine KB.alloc ?_ _)) hkk
    replace c2 := kk.cell (p := ⟨w.heap.size, 2, none⟩) (fun x => x) c2
    replace c3 := kk.cell (p := ⟨w.heap.size, 3, none⟩) (fun x => x) c3
    replace K := K.trans kk
    clear kk hkk
    go_wp2_with fail
    go_ret
    exact ⟨ret_eq (by rw [Hr.out]; rfl), K⟩
  · cases bN
    · go_enter Tryd.func61, Tryd.ntmps61
      go_wp2_with fail
      rw [← HB0.out]
      try rw [HB0s.out]
      refine (HN.out _ (K.trans (by repeat (first | exact KB.refl _ _ | refine KB.alloc ?_ _)))).mono ?_
      rintro e W1 ⟨rfl, hkk⟩
      have kk : KB F0 B0 W1 := KB.trans (by repeat (first | exact KB.refl _ _ | refine KB.alloc ?_ _)) hkk
      replace c2 := kk.cell (p := ⟨w.heap.size, 2, none⟩) (fun x => x) c2
      replace c3 := kk.cell (p := ⟨w.heap.size, 3, none⟩) (fun x => x) c3
      replace K := K.trans kk
      clear kk hkk
      go_wp2_with fail
      refine (HJ.out _ _ _ (K.trans (by repeat (first | exact KB.refl _ _ | refine KB.alloc ?_ _))) (clsat1 (W := W1) (show ClsV _ (.func (.func 69) #[] #[]) .ty from rfl))).mono ?_
      rintro e W2 ⟨rfl, hkk⟩
      have kk : KB F0 W1 W2 := KB.trans (by repeat (first | exact KB.refl _ _ | refine KB.alloc ?_ _)) hkk
      replace c2 := kk.cell (p := ⟨w.heap.size, 2, none⟩) (fun x => x) c2
      replace c3 := kk.cell (p := ⟨w.heap.size, 3, none⟩) (fun x => x) c3
      replace K := K.trans kk
      clear kk hkk
      go_wp2_with fail
      go_ret
      exact ⟨ret_eq (by rw [Hr.out]; rfl), K⟩
    · cases b1
      · go_enter Tryd.func61, Tryd.ntmps61
        go_wp2_with fail
        rw [← HB0.out]
        try rw [HB0s.out]
        refine (HN.out _ (K.trans (by repeat (first | exact KB.refl _ _ | refine KB.alloc ?_ _)))).mono ?_
        rintro e W1 ⟨rfl, hkk⟩
        have kk : KB F0 B0 W1 := KB.trans (by repeat (first | exact KB.refl _ _ | refine KB.alloc ?_ _)) hkk
        replace c2 := kk.cell (p := ⟨w.heap.size, 2, none⟩) (fun x => x) c2
        replace c3 := kk.cell (p := ⟨w.heap.size, 3, none⟩) (fun x => x) c3
        replace K := K.trans kk
        clear kk hkk
        go_wp2_with fail
        refine (HJ.out _ _ _ (K.trans (by repeat (first | exact KB.refl _ _ | refine KB.alloc ?_ _))) (clsat1 (W := W1) (show ClsV _ (.func (.func 69) #[] #[]) .ty from rfl))).mono ?_
        rintro e W2 ⟨rfl, hkk⟩
        have kk : KB F0 W1 W2 := KB.trans (by repeat (first | exact KB.refl _ _ | refine KB.alloc ?_ _)) hkk
        replace c2 := kk.cell (p := ⟨w.heap.size, 2, none⟩) (fun x => x) c2
        replace c3 := kk.cell (p := ⟨w.heap.size, 3, none⟩) (fun x => x) c3
        replace K := K.trans kk
        clear kk hkk
        go_wp2_with fail
        go_ret
        exact ⟨ret_eq (by rw [Hr.out]; rfl), K⟩

      · cases b2
        · go_enter Tryd.func61, Tryd.ntmps61
          go_wp2_with fail
          rw [← HB0.out]
          try rw [HB0s.out]
          refine (HN.out _ (K.trans (by repeat (first | exact KB.refl _ _ | refine KB.alloc ?_ _)))).mono ?_
          rintro e W1 ⟨rfl, hkk⟩
          have kk : KB F0 B0 W1 := KB.trans (by repeat (first | exact KB.refl _ _ | refine KB.alloc ?_ _)) hkk
          replace c2 := kk.cell (p := ⟨w.heap.size, 2, none⟩) (fun x => x) c2
          replace c3 := kk.cell (p := ⟨w.heap.size, 3, none⟩) (fun x => x) c3
          replace K := K.trans kk
          clear kk hkk
          go_wp2_with fail
          refine (HJ.out _ _ _ (K.trans (by repeat (first | exact KB.refl _ _ | refine KB.alloc ?_ _))) (clsat1 (W := W1) (show ClsV _ (.func (.func 69) #[] #[]) .ty from rfl))).mono ?_
          rintro e W2 ⟨rfl, hkk⟩
          have kk : KB F0 W1 W2 := KB.trans (by repeat (first | exact KB.refl _ _ | refine KB.alloc ?_ _)) hkk
          replace c2 := kk.cell (p := ⟨w.heap.size, 2, none⟩) (fun x => x) c2
          replace c3 := kk.cell (p := ⟨w.heap.size, 3, none⟩) (fun x => x) c3
          replace K := K.trans kk
          clear kk hkk
          go_wp2_with fail
          go_ret
          exact ⟨ret_eq (by rw [Hr.out]; rfl), K⟩

        · go_enter Tryd.func61, Tryd.ntmps61
          go_wp2_with fail
          rw [← HB0.out]
          try rw [HB0s.out]
          refine (HN.out _ (K.trans (by repeat (first | exact KB.refl _ _ | refine KB.alloc ?_ _)))).mono ?_
          rintro e W1 ⟨rfl, hkk⟩
          have kk : KB F0 B0 W1 := KB.trans (by repeat (first | exact KB.refl _ _ | refine KB.alloc ?_ _)) hkk
          replace c2 := kk.cell (p := ⟨w.heap.size, 2, none⟩) (fun x => x) c2
          replace c3 := kk.cell (p := ⟨w.heap.size, 3, none⟩) (fun x => x) c3
          replace K := K.trans kk
          clear kk hkk
          go_wp2_with fail
          refine (HJ.out _ _ _ (K.trans (by repeat (first | exact KB.refl _ _ | refine KB.alloc ?_ _))) (clsat1 (W := W1) (show ClsV _ (.func (.func 69) #[] #[]) .ty from rfl))).mono ?_
          rintro e W2 ⟨rfl, hkk⟩
          have kk : KB F0 W1 W2 := KB.trans (by repeat (first | exact KB.refl _ _ | refine KB.alloc ?_ _)) hkk
          replace c2 := kk.cell (p := ⟨w.heap.size, 2, none⟩) (fun x => x) c2
          replace c3 := kk.cell (p := ⟨w.heap.size, 3, none⟩) (fun x => x) c3
          replace K := K.trans kk
          clear kk hkk
          go_wp2_with fail
          go_ret
          exact ⟨ret_eq (by rw [Hr.out]; rfl), K⟩

end Go.Proofs.YtjefoojkgocinaaDoor

namespace Go.Proofs.YtjefoojkgocinaaDoor
open Go.RowKit
set_option maxRecDepth 100000 in
set_option maxHeartbeats 4000000 in
theorem asks_8 (at_ n : Int) (s : ByteArray) (la : Option Addr) (ll lc : Nat) (a : Option Addr) (l : List Nat) (cap : Nat) (w : World) (_hs : s.size ≤ 9223372036854775807) (_hl : l.length ≤ 9223372036854775807) (_ha : KindsAt w a l) (_hT : Tab w) (_hn1 : -9223372036854775808 ≤ n) (_hn2 : n ≤ 9223372036854775807) :
    Calls Tryd.prog 61 #[.agg #[.int .u8 8, .int .i64 at_, .int .i64 n, .string s, .slice la ll lc], .slice a l.length cap] w fun e w' => e = .returned (.bool (askB 8 n s l)) ∧ KB F0 w w' := by
  have Hr : Hid (askB 8 n s l = (len0B l && emptyB s && decide ((0 : Int) ≤ n) && decide (n ≤ (0 : Int)))) := Lib.hid rfl
  obtain ⟨B0, hB0⟩ : ∃ B0, B0 = (w.alloc (.cells #[.int .u8 8, .int .i64 at_, .int .i64 n, .string s, .slice la ll lc] 25)) := ⟨_, rfl⟩
  have K : KB F0 w B0 := by subst hB0; exact (KB.refl _ _).alloc _
  have c2 : B0.cell? ⟨w.heap.size, 2, none⟩ = some (.int .i64 n) := by subst hB0; exact new_cell _ _ _ 2
  have c3 : B0.cell? ⟨w.heap.size, 3, none⟩ = some (.string s) := by subst hB0; exact new_cell _ _ _ 3
  have HB0s : Hid (w.heap.size + 1 = B0.heap.size) := Lib.hid (by subst hB0; simp)
  have HB0 := Lib.hid hB0
  clear hB0
  have t0 : ((l.length : Int) == 0) = len0B l := deq1 rfl
  generalize len0B l = b0 at t0 Hr
  have tE : s.toList.isEmpty = emptyB s := rfl
  generalize emptyB s = bE at tE Hr
  obtain ⟨b1, hb1⟩ : ∃ b, decide ((0 : Int) ≤ n) = b := ⟨_, rfl⟩
  obtain ⟨b2, hb2⟩ : ∃ b, decide (n ≤ (0 : Int)) = b := ⟨_, rfl⟩
  rw [hb1, hb2] at Hr
  clear _ha _hT
  cases b0
  · go_enter Tryd.func61, Tryd.ntmps61
    go_wp2_with fail
    rw [← HB0.out]
    try rw [HB0s.out]
    go_ret
    exact ⟨ret_eq (by rw [Hr.out]; rfl), K⟩
  · cases bE
    · go_enter Tryd.func61, Tryd.ntmps61
      go_wp2_with fail
      rw [← HB0.out]
      try rw [HB0s.out]
      go_ret
      exact ⟨ret_eq (by rw [Hr.out]; rfl), K⟩
    · cases b1
      · go_enter Tryd.func61, Tryd.ntmps61
        go_wp2_with fail
        rw [← HB0.out]
        try rw [HB0s.out]
        go_ret
        exact ⟨ret_eq (by rw [Hr.out]; rfl), K⟩

      · cases b2
        · go_enter Tryd.func61, Tryd.ntmps61
          go_wp2_with fail
          rw [← HB0.out]
          try rw [HB0s.out]
          go_ret
          exact ⟨ret_eq (by rw [Hr.out]; rfl), K⟩

        · go_enter Tryd.func61, Tryd.ntmps61
          go_wp2_with fail
          rw [← HB0.out]
          try rw [HB0s.out]
          go_ret
          exact ⟨ret_eq (by rw [Hr.out]; rfl), K⟩

set_option maxRecDepth 100000 in
set_option maxHeartbeats 4000000 in
theorem asks_9 (at_ n : Int) (s : ByteArray) (la : Option Addr) (ll lc : Nat) (a : Option Addr) (l : List Nat) (cap : Nat) (w : World) (_hs : s.size ≤ 9223372036854775807) (_hl : l.length ≤ 9223372036854775807) (_ha : KindsAt w a l) (_hT : Tab w) (_hn1 : -9223372036854775808 ≤ n) (_hn2 : n ≤ 9223372036854775807) :
    Calls Tryd.prog 61 #[.agg #[.int .u8 9, .int .i64 at_, .int .i64 n, .string s, .slice la ll lc], .slice a l.length cap] w fun e w' => e = .returned (.bool (askB 9 n s l)) ∧ KB F0 w w' := by
  have Hr : Hid (askB 9 n s l = (len0B l && emptyB s && decide ((0 : Int) ≤ n) && decide (n ≤ (0 : Int)))) := Lib.hid rfl
  obtain ⟨B0, hB0⟩ : ∃ B0, B0 = (w.alloc (.cells #[.int .u8 9, .int .i64 at_, .int .i64 n, .string s, .slice la ll lc] 25)) := ⟨_, rfl⟩
  have K : KB F0 w B0 := by subst hB0; exact (KB.refl _ _).alloc _
  have c2 : B0.cell? ⟨w.heap.size, 2, none⟩ = some (.int .i64 n) := by subst hB0; exact new_cell _ _ _ 2
  have c3 : B0.cell? ⟨w.heap.size, 3, none⟩ = some (.string s) := by subst hB0; exact new_cell _ _ _ 3
  have HB0s : Hid (w.heap.size + 1 = B0.heap.size) := Lib.hid (by subst hB0; simp)
  have HB0 := Lib.hid hB0
  clear hB0
  have t0 : ((l.length : Int) == 0) = len0B l := deq1 rfl
  generalize len0B l = b0 at t0 Hr
  have tE : s.toList.isEmpty = emptyB s := rfl
  generalize emptyB s = bE at tE Hr
  obtain ⟨b1, hb1⟩ : ∃ b, decide ((0 : Int) ≤ n) = b := ⟨_, rfl⟩
  obtain ⟨b2, hb2⟩ : ∃ b, decide (n ≤ (0 : Int)) = b := ⟨_, rfl⟩
  rw [hb1, hb2] at Hr
  clear _ha _hT
  cases b0
  · go_enter Tryd.func61, Tryd.ntmps61
    go_wp2_with fail
    rw [← HB0.out]
    try rw [HB0s.out]
    go_ret
    exact ⟨ret_eq (by rw [Hr.out]; rfl), K⟩
  · cases bE
    · go_enter Tryd.func61, Tryd.ntmps61
      go_wp2_with fail
      rw [← HB0.out]
      try rw [HB0s.out]
      go_ret
      exact ⟨ret_eq (by rw [Hr.out]; rfl), K⟩
    · cases b1
      · go_enter Tryd.func61, Tryd.ntmps61
        go_wp2_with fail
        rw [← HB0.out]
        try rw [HB0s.out]
        go_ret
        exact ⟨ret_eq (by rw [Hr.out]; rfl), K⟩

      · cases b2
        · go_enter Tryd.func61, Tryd.ntmps61
          go_wp2_with fail
          rw [← HB0.out]
          try rw [HB0s.out]
          go_ret
          exact ⟨ret_eq (by rw [Hr.out]; rfl), K⟩

        · go_enter Tryd.func61, Tryd.ntmps61
          go_wp2_with fail
          rw [← HB0.out]
          try rw [HB0s.out]
          go_ret
          exact ⟨ret_eq (by rw [Hr.out]; rfl), K⟩

set_option maxRecDepth 100000 in
set_option maxHeartbeats 4000000 in
theorem asks_10 (at_ n : Int) (s : ByteArray) (la : Option Addr) (ll lc : Nat) (a : Option Addr) (l : List Nat) (cap : Nat) (w : World) (_hs : s.size ≤ 9223372036854775807) (hl : l.length ≤ 9223372036854775807) (ha : KindsAt w a l) (_hT : Tab w) (_hn1 : -9223372036854775808 ≤ n) (_hn2 : n ≤ 9223372036854775807) :
    Calls Tryd.prog 61 #[.agg #[.int .u8 10, .int .i64 at_, .int .i64 n, .string s, .slice la ll lc], .slice a l.length cap] w fun e w' => e = .returned (.bool (askB 10 n s l)) ∧ KB F0 w w' := by
  have Hr : Hid (askB 10 n s l = (justB l [.ty] && emptyB s && decide ((0 : Int) ≤ n) && decide (n ≤ (0 : Int)))) := Lib.hid rfl
  obtain ⟨B0, hB0⟩ : ∃ B0, B0 = (w.alloc (.cells #[.int .u8 10, .int .i64 at_, .int .i64 n, .string s, .slice la ll lc] 25)) := ⟨_, rfl⟩
  have K : KB F0 w B0 := by subst hB0; exact (KB.refl _ _).alloc _
  have c2 : B0.cell? ⟨w.heap.size, 2, none⟩ = some (.int .i64 n) := by subst hB0; exact new_cell _ _ _ 2
  have c3 : B0.cell? ⟨w.heap.size, 3, none⟩ = some (.string s) := by subst hB0; exact new_cell _ _ _ 3
  have HB0s : Hid (w.heap.size + 1 = B0.heap.size) := Lib.hid (by subst hB0; simp)
  have HB0 := Lib.hid hB0
  clear hB0
  have HJ := Lib.hid (fun W a2 cap2 (hk : KB F0 w W) (hc : ClsAt W a2 [.ty]) => justV a a2 l [.ty] cap cap2 W hl (by decide) (ha.kbF hk) hc)
  generalize justB l [.ty] = b0 at HJ Hr
  have tE : s.toList.isEmpty = emptyB s := rfl
  generalize emptyB s = bE at tE Hr
  obtain ⟨b1, hb1⟩ : ∃ b, decide ((0 : Int) ≤ n) = b := ⟨_, rfl⟩
  obtain ⟨b2, hb2⟩ : ∃ b, decide (n ≤ (0 : Int)) = b := ⟨_, rfl⟩
  rw [hb1, hb2] at Hr
  clear ha _hT
  cases b0
  · go_enter Tryd.func61, Tryd.ntmps61
    go_wp2_with fail
    rw [← HB0.out]
    try rw [HB0s.out]
    refine (HJ.out _ _ _ (K.trans (by repeat (first | exact KB.refl _ _ | refine KB.alloc ?_ _))) (clsat1 (W := B0) (show ClsV _ (.func (.func 69) #[] #[]) .ty from rfl))).mono ?_
    rintro e W1 ⟨rfl, hkk⟩
    have kk : KB F0 B0 W1 := KB.trans (by repeat (first | exact KB.refl _ _ | refine KB.alloc ?_ _)) hkk
    replace c2 := kk.cell (p := ⟨w.heap.size, 2, none⟩) (fun x => x) c2
    replace c3 := kk.cell (p := ⟨w.heap.size, 3, none⟩) (fun x => x) c3
    replace K := K.trans kk
    clear kk hkk
    go_wp2_with fail
    go_ret
    exact ⟨ret_eq (by rw [Hr.out]; rfl), K⟩
  · cases bE
    · go_enter Tryd.func61, Tryd.ntmps61
      go_wp2_with fail
      rw [← HB0.out]
      try rw [HB0s.out]
      refine (HJ.out _ _ _ (K.trans (by repeat (first | exact KB.refl _ _ | refine KB.alloc ?_ _))) (clsat1 (W := B0) (show ClsV _ (.func (.func 69) #[] #[]) .ty from rfl))).mono ?_
      rintro e W1 ⟨rfl, hkk⟩
      have kk : KB F0 B0 W1 := KB.trans (by repeat (first | exact KB.refl _ _ | refine KB.alloc ?_ _)) hkk
      replace c2 := kk.cell (p := ⟨w.heap.size, 2, none⟩) (fun x => x) c2
      replace c3 := kk.cell (p := ⟨w.heap.size, 3, none⟩) (fun x => x) c3
      replace K := K.trans kk
      clear kk hkk
      go_wp2_with fail
      go_ret
      exact ⟨ret_eq (by rw [Hr.out]; rfl), K⟩
    · cases b1
      · go_enter Tryd.func61, Tryd.ntmps61
        go_wp2_with fail
        rw [← HB0.out]
        try rw [HB0s.out]
        refine (HJ.out _ _ _ (K.trans (by repeat (first | exact KB.refl _ _ | refine KB.alloc ?_ _))) (clsat1 (W := B0) (show ClsV _ (.func (.func 69) #[] #[]) .ty from rfl))).mono ?_
        rintro e W1 ⟨rfl, hkk⟩
        have kk : KB F0 B0 W1 := KB.trans (by repeat (first | exact KB.refl _ _ | refine KB.alloc ?_ _)) hkk
        replace c2 := kk.cell (p := ⟨w.heap.size, 2, none⟩) (fun x => x) c2
        replace c3 := kk.cell (p := ⟨w.heap.size, 3, none⟩) (fun x => x) c3
        replace K := K.trans kk
        clear kk hkk
        go_wp2_with fail
        go_ret
        exact ⟨ret_eq (by rw [Hr.out]; rfl), K⟩

      · cases b2
        · go_enter Tryd.func61, Tryd.ntmps61
          go_wp2_with fail
          rw [← HB0.out]
          try rw [HB0s.out]
          refine (HJ.out _ _ _ (K.trans (by repeat (first | exact KB.refl _ _ | refine KB.alloc ?_ _))) (clsat1 (W := B0) (show ClsV _ (.func (.func 69) #[] #[]) .ty from rfl))).mono ?_
          rintro e W1 ⟨rfl, hkk⟩
          have kk : KB F0 B0 W1 := KB.trans (by repeat (first | exact KB.refl _ _ | refine KB.alloc ?_ _)) hkk
          replace c2 := kk.cell (p := ⟨w.heap.size, 2, none⟩) (fun x => x) c2
          replace c3 := kk.cell (p := ⟨w.heap.size, 3, none⟩) (fun x => x) c3
          replace K := K.trans kk
          clear kk hkk
          go_wp2_with fail
          go_ret
          exact ⟨ret_eq (by rw [Hr.out]; rfl), K⟩

        · go_enter Tryd.func61, Tryd.ntmps61
          go_wp2_with fail
          rw [← HB0.out]
          try rw [HB0s.out]
          refine (HJ.out _ _ _ (K.trans (by repeat (first | exact KB.refl _ _ | refine KB.alloc ?_ _))) (clsat1 (W := B0) (show ClsV _ (.func (.func 69) #[] #[]) .ty from rfl))).mono ?_
          rintro e W1 ⟨rfl, hkk⟩
          have kk : KB F0 B0 W1 := KB.trans (by repeat (first | exact KB.refl _ _ | refine KB.alloc ?_ _)) hkk
          replace c2 := kk.cell (p := ⟨w.heap.size, 2, none⟩) (fun x => x) c2
          replace c3 := kk.cell (p := ⟨w.heap.size, 3, none⟩) (fun x => x) c3
          replace K := K.trans kk
          clear kk hkk
          go_wp2_with fail
          go_ret
          exact ⟨ret_eq (by rw [Hr.out]; rfl), K⟩

set_option maxRecDepth 100000 in
set_option maxHeartbeats 4000000 in
theorem asks_11 (at_ n : Int) (s : ByteArray) (la : Option Addr) (ll lc : Nat) (a : Option Addr) (l : List Nat) (cap : Nat) (w : World) (hs : s.size ≤ 9223372036854775807) (hl : l.length ≤ 9223372036854775807) (ha : KindsAt w a l) (hT : Tab w) (_hn1 : -9223372036854775808 ≤ n) (_hn2 : n ≤ 9223372036854775807) :
    Calls Tryd.prog 61 #[.agg #[.int .u8 11, .int .i64 at_, .int .i64 n, .string s, .slice la ll lc], .slice a l.length cap] w fun e w' => e = .returned (.bool (askB 11 n s l)) ∧ KB F0 w w' := by
  have Hr : Hid (askB 11 n s l = (justB l [.ty] && (emptyB s || nameB s) && decide ((0 : Int) ≤ n) && decide (n ≤ (1 : Int)))) := Lib.hid rfl
  obtain ⟨B0, hB0⟩ : ∃ B0, B0 = (w.alloc (.cells #[.int .u8 11, .int .i64 at_, .int .i64 n, .string s, .slice la ll lc] 25)) := ⟨_, rfl⟩
  have K : KB F0 w B0 := by subst hB0; exact (KB.refl _ _).alloc _
  have c2 : B0.cell? ⟨w.heap.size, 2, none⟩ = some (.int .i64 n) := by subst hB0; exact new_cell _ _ _ 2
  have c3 : B0.cell? ⟨w.heap.size, 3, none⟩ = some (.string s) := by subst hB0; exact new_cell _ _ _ 3
  have HB0s : Hid (w.heap.size + 1 = B0.heap.size) := Lib.hid (by subst hB0; simp)
  have HB0 := Lib.hid hB0
  clear hB0
  have HN := Lib.hid (fun W (hk : KB F0 w W) => name_any s W hs (hT.kb hk))
  have HJ := Lib.hid (fun W a2 cap2 (hk : KB F0 w W) (hc : ClsAt W a2 [.ty]) => justV a a2 l [.ty] cap cap2 W hl (by decide) (ha.kbF hk) hc)
  generalize justB l [.ty] = b0 at HJ Hr
  have tE : s.toList.isEmpty = emptyB s := rfl
  generalize emptyB s = bE at tE Hr
  generalize nameB s = bN at HN Hr
  obtain ⟨b1, hb1⟩ : ∃ b, decide ((0 : Int) ≤ n) = b := ⟨_, rfl⟩
  obtain ⟨b2, hb2⟩ : ∃ b, decide (n ≤ (1 : Int)) = b := ⟨_, rfl⟩
  rw [hb1, hb2] at Hr
  clear ha hT
  cases bE
  · cases b0
    · go_enter Tryd.func61, Tryd.ntmps61
      go_wp2_with fail
      rw [← HB0.out]
      try rw [HB0s.out]
      refine (HN.out _ (K.trans (by repeat (first | exact KB.refl _ _ | refine KB.alloc ?_ _)))).mono ?_
      rintro e W1 ⟨rfl, hkk⟩
      have kk : KB F0 B0 W1 := KB.trans (by repeat (first | exact KB.refl _ _ | refine KB.alloc ?_ _)) hkk
      replace c2 := kk.cell (p := ⟨w.heap.size, 2, none⟩) (fun x => x) c2
      replace c3 := kk.cell (p := ⟨w.heap.size, 3, none⟩) (fun x => x) c3
      replace K := K.trans kk
      clear kk hkk
      go_wp2_with fail
      refine (HJ.out _ _ _ (K.trans (by repeat (first | exact KB.refl _ _ | refine KB.alloc ?_ _))) (clsat1 (W := W1) (show ClsV _ (.func (.func 69) #[] #[]) .ty from rfl))).mono ?_
      rintro e W2 ⟨rfl, hkk⟩
      have kk : KB F0 W1 W2 := KB.trans (by repeat (first | exact KB.refl _ _ | refine KB.alloc ?_ _)) hkk
      replace c2 := kk.cell (p := ⟨w.heap.size, 2, none⟩) (fun x => x) c2
      replace c3 := kk.cell (p := ⟨w.heap.size, 3, none⟩) (fun x => x) c3
      replace K := K.trans kk
      clear kk hkk
      go_wp2_with fail
      go_ret
      exact ⟨ret_eq (by rw [Hr.out]; rfl), K⟩
    · cases bN
      · go_enter Tryd.func61, Tryd.ntmps61
        go_wp2_with fail
        rw [← HB0.out]
        try rw [HB0s.out]
        refine (HN.out _ (K.trans (by repeat (first | exact KB.refl _ _ | refine KB.alloc ?_ _)))).mono ?_
        rintro e W1 ⟨rfl, hkk⟩
        have kk : KB F0 B0 W1 := KB.trans (by repeat (first | exact KB.refl _ _ | refine KB.alloc ?_ _)) hkk
        replace c2 := kk.cell (p := ⟨w.heap.size, 2, none⟩) (fun x => x) c2
        replace c3 := kk.cell (p := ⟨w.heap.size, 3, none⟩) (fun x => x) c3
        replace K := K.trans kk
        clear kk hkk
        go_wp2_with fail
        refine (HJ.out _ _ _ (K.trans (by repeat (first | exact KB.refl _ _ | refine KB.alloc ?_ _))) (clsat1 (W := W1) (show ClsV _ (.func (.func 69) #[] #[]) .ty from rfl))).mono ?_
        rintro e W2 ⟨rfl, hkk⟩
        have kk : KB F0 W1 W2 := KB.trans (by repeat (first | exact KB.refl _ _ | refine KB.alloc ?_ _)) hkk
        replace c2 := kk.cell (p := ⟨w.heap.size, 2, none⟩) (fun x => x) c2
        replace c3 := kk.cell (p := ⟨w.heap.size, 3, none⟩) (fun x => x) c3
        replace K := K.trans kk
        clear kk hkk
        go_wp2_with fail
        go_ret
        exact ⟨ret_eq (by rw [Hr.out]; rfl), K⟩
      · cases b1
        · go_enter Tryd.func61, Tryd.ntmps61
          go_wp2_with fail
          rw [← HB0.out]
          try rw [HB0s.out]
          refine (HN.out _ (K.trans (by repeat (first | exact KB.refl _ _ | refine KB.alloc ?_ _)))).mono ?_
          rintro e W1 ⟨rfl, hkk⟩
          have kk : KB F0 B0 W1 := KB.trans (by repeat (first | exact KB.refl _ _ | refine KB.alloc ?_ _)) hkk
          replace c2 := kk.cell (p := ⟨w.heap.size, 2, none⟩) (fun x => x) c2
          replace c3 := kk.cell (p := ⟨w.heap.size, 3, none⟩) (fun x => x) c3
          replace K := K.trans kk
          clear kk hkk
          go_wp2_with fail
          refine (HJ.out _ _ _ (K.trans (by repeat (first | exact KB.refl _ _ | refine KB.alloc ?_ _))) (clsat1 (W := W1) (show ClsV _ (.func (.func 69) #[] #[]) .ty from rfl))).mono ?_
          rintro e W2 ⟨rfl, hkk⟩
          have kk : KB F0 W1 W2 := KB.trans (by repeat (first | exact KB.refl _ _ | refine KB.alloc ?_ _)) hkk
          replace c2 := kk.cell (p := ⟨w.heap.size, 2, none⟩) (fun x => x) c2
          replace c3 := kk.cell (p := ⟨w.heap.size, 3, none⟩) (fun x => x) c3
          replace K := K.trans kk
          clear kk hkk
          go_wp2_with fail
          go_ret
          exact ⟨ret_eq (by rw [Hr.out]; rfl), K⟩

        · cases b2
          · go_enter Tryd.func61, Tryd.ntmps61
            go_wp2_with fail
            rw [← HB0.out]
            try rw [HB0s.out]
            refine (HN.out _ (K.trans (by repeat (first | exact KB.refl _ _ | refine KB.alloc ?_ _)))).mono ?_
            rintro e W1 ⟨rfl, hkk⟩
            have kk : KB F0 B0 W1 := KB.trans (by repeat (first | exact KB.refl _ _ | refine KB.alloc ?_ _)) hkk
            replace c2 := kk.cell (p := ⟨w.heap.size, 2, none⟩) (fun x => x) c2
            replace c3 := kk.cell (p := ⟨w.heap.size, 3, none⟩) (fun x => x) c3
            replace K := K.trans kk
            clear kk hkk
            go_wp2_with fail
            refine (HJ.out _ _ _ (K.trans (by repeat (first | exact KB.refl _ _ | refine KB.alloc ?_ _))) (clsat1 (W := W1) (show ClsV _ (.func (.func 69) #[] #[]) .ty from rfl))).mono ?_
            rintro e W2 ⟨rfl, hkk⟩
            have kk : KB F0 W1 W2 := KB.trans (by repeat (first | exact KB.refl _ _ | refine KB.alloc ?_ _)) hkk
            replace c2 := kk.cell (p := ⟨w.heap.size, 2, none⟩) (fun x => x) c2
            replace c3 := kk.cell (p := ⟨w.heap.size, 3, none⟩) (fun x => x) c3
            replace K := K.trans kk
            clear kk hkk
            go_wp2_with fail
            go_ret
            exact ⟨ret_eq (by rw [Hr.out]; rfl), K⟩

          · go_enter Tryd.func61, Tryd.ntmps61
            go_wp2_with fail
            rw [← HB0.out]
            try rw [HB0s.out]
            refine (HN.out _ (K.trans (by repeat (first | exact KB.refl _ _ | refine KB.alloc ?_ _)))).mono ?_
            rintro e W1 ⟨rfl, hkk⟩
            have kk : KB F0 B0 W1 := KB.trans (by repeat (first | exact KB.refl _ _ | refine KB.alloc ?_ _)) hkk
            replace c2 := kk.cell (p := ⟨w.heap.size, 2, none⟩) (fun x => x) c2
            replace c3 := kk.cell (p := ⟨w.heap.size, 3, none⟩) (fun x => x) c3
            replace K := K.trans kk
            clear kk hkk
            go_wp2_with fail
            refine (HJ.out _ _ _ (K.trans (by repeat (first | exact KB.refl _ _ | refine KB.alloc ?_ _))) (clsat1 (W := W1) (show ClsV _ (.func (.func 69) #[] #[]) .ty from rfl))).mono ?_
            rintro e W2 ⟨rfl, hkk⟩
            have kk : KB F0 W1 W2 := KB.trans (by repeat (first | exact KB.refl _ _ | refine KB.alloc ?_ _)) hkk
            replace c2 := kk.cell (p := ⟨w.heap.size, 2, none⟩) (fun x => x) c2
            replace c3 := kk.cell (p := ⟨w.heap.size, 3, none⟩) (fun x => x) c3
            replace K := K.trans kk
            clear kk hkk
            go_wp2_with fail
            go_ret
            exact ⟨ret_eq (by rw [Hr.out]; rfl), K⟩
  · cases b0
    · go_enter Tryd.func61, Tryd.ntmps61
      go_wp2_with fail
      rw [← HB0.out]
      try rw [HB0s.out]
      refine (HJ.out _ _ _ (K.trans (by repeat (first | exact KB.refl _ _ | refine KB.alloc ?_ _))) (clsat1 (W := B0) (show ClsV _ (.func (.func 69) #[] #[]) .ty from rfl))).mono ?_
      rintro e W1 ⟨rfl, hkk⟩
      have kk : KB F0 B0 W1 := KB.trans (by repeat (first | exact KB.refl _ _ | refine KB.alloc ?_ _)) hkk
      replace c2 := kk.cell (p := ⟨w.heap.size, 2, none⟩) (fun x => x) c2
      replace c3 := kk.cell (p := ⟨w.heap.size, 3, none⟩) (fun x => x) c3
      replace K := K.trans kk
      clear kk hkk
      go_wp2_with fail
      go_ret
      exact ⟨ret_eq (by rw [Hr.out]; rfl), K⟩
    · cases b1
      · go_enter Tryd.func61, Tryd.ntmps61
        go_wp2_with fail
        rw [← HB0.out]
        try rw [HB0s.out]
        refine (HJ.out _ _ _ (K.trans (by repeat (first | exact KB.refl _ _ | refine KB.alloc ?_ _))) (clsat1 (W := B0) (show ClsV _ (.func (.func 69) #[] #[]) .ty from rfl))).mono ?_
        rintro e W1 ⟨rfl, hkk⟩
        have kk : KB F0 B0 W1 := KB.trans (by repeat (first | exact KB.refl _ _ | refine KB.alloc ?_ _)) hkk
        replace c2 := kk.cell (p := ⟨w.heap.size, 2, none⟩) (fun x => x) c2
        replace c3 := kk.cell (p := ⟨w.heap.size, 3, none⟩) (fun x => x) c3
        replace K := K.trans kk
        clear kk hkk
        go_wp2_with fail
        go_ret
        exact ⟨ret_eq (by rw [Hr.out]; rfl), K⟩

      · cases b2
        · go_enter Tryd.func61, Tryd.ntmps61
          go_wp2_with fail
          rw [← HB0.out]
          try rw [HB0s.out]
          refine (HJ.out _ _ _ (K.trans (by repeat (first | exact KB.refl _ _ | refine KB.alloc ?_ _))) (clsat1 (W := B0) (show ClsV _ (.func (.func 69) #[] #[]) .ty from rfl))).mono ?_
          rintro e W1 ⟨rfl, hkk⟩
          have kk : KB F0 B0 W1 := KB.trans (by repeat (first | exact KB.refl _ _ | refine KB.alloc ?_ _)) hkk
          replace c2 := kk.cell (p := ⟨w.heap.size, 2, none⟩) (fun x => x) c2
          replace c3 := kk.cell (p := ⟨w.heap.size, 3, none⟩) (fun x => x) c3
          replace K := K.trans kk
          clear kk hkk
          go_wp2_with fail
          go_ret
          exact ⟨ret_eq (by rw [Hr.out]; rfl), K⟩

        · go_enter Tryd.func61, Tryd.ntmps61
          go_wp2_with fail
          rw [← HB0.out]
          try rw [HB0s.out]
          refine (HJ.out _ _ _ (K.trans (by repeat (first | exact KB.refl _ _ | refine KB.alloc ?_ _))) (clsat1 (W := B0) (show ClsV _ (.func (.func 69) #[] #[]) .ty from rfl))).mono ?_
          rintro e W1 ⟨rfl, hkk⟩
          have kk : KB F0 B0 W1 := KB.trans (by repeat (first | exact KB.refl _ _ | refine KB.alloc ?_ _)) hkk
          replace c2 := kk.cell (p := ⟨w.heap.size, 2, none⟩) (fun x => x) c2
          replace c3 := kk.cell (p := ⟨w.heap.size, 3, none⟩) (fun x => x) c3
          replace K := K.trans kk
          clear kk hkk
          go_wp2_with fail
          go_ret
          exact ⟨ret_eq (by rw [Hr.out]; rfl), K⟩

set_option maxRecDepth 100000 in
set_option maxHeartbeats 4000000 in
theorem asks_12 (at_ n : Int) (s : ByteArray) (la : Option Addr) (ll lc : Nat) (a : Option Addr) (l : List Nat) (cap : Nat) (w : World) (hs : s.size ≤ 9223372036854775807) (_hl : l.length ≤ 9223372036854775807) (_ha : KindsAt w a l) (_hT : Tab w) (_hn1 : -9223372036854775808 ≤ n) (_hn2 : n ≤ 9223372036854775807) :
    Calls Tryd.prog 61 #[.agg #[.int .u8 12, .int .i64 at_, .int .i64 n, .string s, .slice la ll lc], .slice a l.length cap] w fun e w' => e = .returned (.bool (askB 12 n s l)) ∧ KB F0 w w' := by
  have Hr : Hid (askB 12 n s l = (len0B l && typeNameB s && decide ((0 : Int) ≤ n) && decide (n ≤ (0 : Int)))) := Lib.hid rfl
  obtain ⟨B0, hB0⟩ : ∃ B0, B0 = (w.alloc (.cells #[.int .u8 12, .int .i64 at_, .int .i64 n, .string s, .slice la ll lc] 25)) := ⟨_, rfl⟩
  have K : KB F0 w B0 := by subst hB0; exact (KB.refl _ _).alloc _
  have c2 : B0.cell? ⟨w.heap.size, 2, none⟩ = some (.int .i64 n) := by subst hB0; exact new_cell _ _ _ 2
  have c3 : B0.cell? ⟨w.heap.size, 3, none⟩ = some (.string s) := by subst hB0; exact new_cell _ _ _ 3
  have HB0s : Hid (w.heap.size + 1 = B0.heap.size) := Lib.hid (by subst hB0; simp)
  have HB0 := Lib.hid hB0
  clear hB0
  have HT := Lib.hid (fun W (_ : KB F0 w W) => typeNameV s W hs)
  have t0 : ((l.length : Int) == 0) = len0B l := deq1 rfl
  generalize len0B l = b0 at t0 Hr
  generalize typeNameB s = bN at HT Hr
  obtain ⟨b1, hb1⟩ : ∃ b, decide ((0 : Int) ≤ n) = b := ⟨_, rfl⟩
  obtain ⟨b2, hb2⟩ : ∃ b, decide (n ≤ (0 : Int)) = b := ⟨_, rfl⟩
  rw [hb1, hb2] at Hr
  clear _ha _hT
  cases b0
  · go_enter Tryd.func61, Tryd.ntmps61
    go_wp2_with fail
    rw [← HB0.out]
    try rw [HB0s.out]
    refine (HT.out _ (K.trans (by repeat (first | exact KB.refl _ _ | refine KB.alloc ?_ _)))).mono ?_
    rintro e W1 ⟨rfl, hkk⟩
    have kk : KB F0 B0 W1 := KB.trans (by repeat (first | exact KB.refl _ _ | refine KB.alloc ?_ _)) hkk
    replace c2 := kk.cell (p := ⟨w.heap.size, 2, none⟩) (fun x => x) c2
    replace c3 := kk.cell (p := ⟨w.heap.size, 3, none⟩) (fun x => x) c3
    replace K := K.trans kk
    clear kk hkk
    go_wp2_with fail
    go_ret
    exact ⟨ret_eq (by rw [Hr.out]; rfl), K⟩
  · cases bN
    · go_enter Tryd.func61, Tryd.ntmps61
      go_wp2_with fail
      rw [← HB0.out]
      try rw [HB0s.out]
      refine (HT.out _ (K.trans (by repeat (first | exact KB.refl _ _ | refine KB.alloc ?_ _)))).mono ?_
      rintro e W1 ⟨rfl, hkk⟩
      have kk : KB F0 B0 W1 := KB.trans (by repeat (first | exact KB.refl _ _ | refine KB.alloc ?_ _)) hkk
      replace c2 := kk.cell (p := ⟨w.heap.size, 2, none⟩) (fun x => x) c2
      replace c3 := kk.cell (p := ⟨w.heap.size, 3, none⟩) (fun x => x) c3
      replace K := K.trans kk
      clear kk hkk
      go_wp2_with fail
      go_ret
      exact ⟨ret_eq (by rw [Hr.out]; rfl), K⟩
    · cases b1
      · go_enter Tryd.func61, Tryd.ntmps61
        go_wp2_with fail
        rw [← HB0.out]
        try rw [HB0s.out]
        refine (HT.out _ (K.trans (by repeat (first | exact KB.refl _ _ | refine KB.alloc ?_ _)))).mono ?_
        rintro e W1 ⟨rfl, hkk⟩
        have kk : KB F0 B0 W1 := KB.trans (by repeat (first | exact KB.refl _ _ | refine KB.alloc ?_ _)) hkk
        replace c2 := kk.cell (p := ⟨w.heap.size, 2, none⟩) (fun x => x) c2
        replace c3 := kk.cell (p := ⟨w.heap.size, 3, none⟩) (fun x => x) c3
        replace K := K.trans kk
        clear kk hkk
        go_wp2_with fail
        go_ret
        exact ⟨ret_eq (by rw [Hr.out]; rfl), K⟩

      · cases b2
        · go_enter Tryd.func61, Tryd.ntmps61
          go_wp2_with fail
          rw [← HB0.out]
          try rw [HB0s.out]
          refine (HT.out _ (K.trans (by repeat (first | exact KB.refl _ _ | refine KB.alloc ?_ _)))).mono ?_
          rintro e W1 ⟨rfl, hkk⟩
          have kk : KB F0 B0 W1 := KB.trans (by repeat (first | exact KB.refl _ _ | refine KB.alloc ?_ _)) hkk
          replace c2 := kk.cell (p := ⟨w.heap.size, 2, none⟩) (fun x => x) c2
          replace c3 := kk.cell (p := ⟨w.heap.size, 3, none⟩) (fun x => x) c3
          replace K := K.trans kk
          clear kk hkk
          go_wp2_with fail
          go_ret
          exact ⟨ret_eq (by rw [Hr.out]; rfl), K⟩

        · go_enter Tryd.func61, Tryd.ntmps61
          go_wp2_with fail
          rw [← HB0.out]
          try rw [HB0s.out]
          refine (HT.out _ (K.trans (by repeat (first | exact KB.refl _ _ | refine KB.alloc ?_ _)))).mono ?_
          rintro e W1 ⟨rfl, hkk⟩
          have kk : KB F0 B0 W1 := KB.trans (by repeat (first | exact KB.refl _ _ | refine KB.alloc ?_ _)) hkk
          replace c2 := kk.cell (p := ⟨w.heap.size, 2, none⟩) (fun x => x) c2
          replace c3 := kk.cell (p := ⟨w.heap.size, 3, none⟩) (fun x => x) c3
          replace K := K.trans kk
          clear kk hkk
          go_wp2_with fail
          go_ret
          exact ⟨ret_eq (by rw [Hr.out]; rfl), K⟩

set_option maxRecDepth 100000 in
set_option maxHeartbeats 4000000 in
theorem asks_0 (at_ n : Int) (s : ByteArray) (la : Option Addr) (ll lc : Nat) (a : Option Addr) (l : List Nat) (cap : Nat) (w : World) (_hs : s.size ≤ 9223372036854775807) (_hl : l.length ≤ 9223372036854775807) (_ha : KindsAt w a l) (_hT : Tab w) (_hn1 : -9223372036854775808 ≤ n) (_hn2 : n ≤ 9223372036854775807) :
    Calls Tryd.prog 61 #[.agg #[.int .u8 0, .int .i64 at_, .int .i64 n, .string s, .slice la ll lc], .slice a l.length cap] w fun e w' => e = .returned (.bool (askB 0 n s l)) ∧ KB F0 w w' := by
  have Hr : Hid (askB 0 n s l = (false && emptyB s && decide ((0 : Int) ≤ n) && decide (n ≤ (0 : Int)))) := Lib.hid rfl
  obtain ⟨B0, hB0⟩ : ∃ B0, B0 = (w.alloc (.cells #[.int .u8 0, .int .i64 at_, .int .i64 n, .string s, .slice la ll lc] 25)) := ⟨_, rfl⟩
  have K : KB F0 w B0 := by subst hB0; exact (KB.refl _ _).alloc _
  have c2 : B0.cell? ⟨w.heap.size, 2, none⟩ = some (.int .i64 n) := by subst hB0; exact new_cell _ _ _ 2
  have c3 : B0.cell? ⟨w.heap.size, 3, none⟩ = some (.string s) := by subst hB0; exact new_cell _ _ _ 3
  have HB0s : Hid (w.heap.size + 1 = B0.heap.size) := Lib.hid (by subst hB0; simp)
  have HB0 := Lib.hid hB0
  clear hB0
  have tE : s.toList.isEmpty = emptyB s := rfl
  generalize emptyB s = bE at tE Hr
  obtain ⟨b1, hb1⟩ : ∃ b, decide ((0 : Int) ≤ n) = b := ⟨_, rfl⟩
  obtain ⟨b2, hb2⟩ : ∃ b, decide (n ≤ (0 : Int)) = b := ⟨_, rfl⟩
  rw [hb1, hb2] at Hr
  clear _ha _hT
  go_enter Tryd.func61, Tryd.ntmps61
  go_wp2_with fail
  rw [← HB0.out]
  try rw [HB0s.out]
  go_ret
  exact ⟨ret_eq (by rw [Hr.out]; rfl), K⟩

end Go.Proofs.YtjefoojkgocinaaDoor

namespace Go.Proofs.YtjefoojkgocinaaDoor
open Go.RowKit
set_option maxRecDepth 100000 in
set_option maxHeartbeats 4000000 in
theorem asks_13 (at_ n : Int) (s : ByteArray) (la : Option Addr) (ll lc : Nat) (a : Option Addr) (l : List Nat) (cap : Nat) (w : World) (_hs : s.size ≤ 9223372036854775807) (hl : l.length ≤ 9223372036854775807) (ha : KindsAt w a l) (_hT : Tab w) (_hn1 : -9223372036854775808 ≤ n) (_hn2 : n ≤ 9223372036854775807) :
    Calls Tryd.prog 60 #[.agg #[.int .u8 13, .int .i64 at_, .int .i64 n, .string s, .slice la ll lc], .slice a l.length cap] w fun e w' => e = .returned (.bool (askB 13 n s l)) ∧ KB F0 w w' := by
  have Hr : Hid (askB 13 n s l = (askedB l 0 16384 (.st) && emptyB s && decide ((0 : Int) ≤ n) && decide (n ≤ (0 : Int)))) := Lib.hid rfl
  obtain ⟨B0, hB0⟩ : ∃ B0, B0 = (w.alloc (.cells #[.int .u8 13, .int .i64 at_, .int .i64 n, .string s, .slice la ll lc] 25)) := ⟨_, rfl⟩
  have K : KB F0 w B0 := by subst hB0; exact (KB.refl _ _).alloc _
  have c2 : B0.cell? ⟨w.heap.size, 2, none⟩ = some (.int .i64 n) := by subst hB0; exact new_cell _ _ _ 2
  have c3 : B0.cell? ⟨w.heap.size, 3, none⟩ = some (.string s) := by subst hB0; exact new_cell _ _ _ 3
  have HB0s : Hid (w.heap.size + 1 = B0.heap.size) := Lib.hid (by subst hB0; simp)
  have HB0 := Lib.hid hB0
  clear hB0
  have HA := Lib.hid (fun W v (hk : KB F0 w W) (hv : ClsV W v (.st)) => asked_any a l cap 0 16384 v (.st) W hl (ha.kbF hk) hv)
  generalize askedB l 0 16384 (.st) = b0 at HA Hr
  have tE : s.toList.isEmpty = emptyB s := rfl
  generalize emptyB s = bE at tE Hr
  obtain ⟨b1, hb1⟩ : ∃ b, decide ((0 : Int) ≤ n) = b := ⟨_, rfl⟩
  obtain ⟨b2, hb2⟩ : ∃ b, decide (n ≤ (0 : Int)) = b := ⟨_, rfl⟩
  rw [hb1, hb2] at Hr
  clear ha _hT
  cases b0
  · go_enter Tryd.func60, Tryd.ntmps60
    go_wp2_with fail
    rw [← HB0.out]
    try rw [HB0s.out]
    refine (HA.out _ _ (K.trans (by repeat (first | exact KB.refl _ _ | refine KB.alloc ?_ _))) (show ClsV _ (.func (.func 67) #[] #[]) .st from rfl)).mono ?_
    rintro e W1 ⟨rfl, hkk⟩
    have kk : KB F0 B0 W1 := KB.trans (by repeat (first | exact KB.refl _ _ | refine KB.alloc ?_ _)) hkk
    replace c2 := kk.cell (p := ⟨w.heap.size, 2, none⟩) (fun x => x) c2
    replace c3 := kk.cell (p := ⟨w.heap.size, 3, none⟩) (fun x => x) c3
    replace K := K.trans kk
    clear kk hkk
    go_wp2_with fail
    go_ret
    exact ⟨ret_eq (by rw [Hr.out]; rfl), K⟩
  · cases bE
    · go_enter Tryd.func60, Tryd.ntmps60
      go_wp2_with fail
      rw [← HB0.out]
      try rw [HB0s.out]
      refine (HA.out _ _ (K.trans (by repeat (first | exact KB.refl _ _ | refine KB.alloc ?_ _))) (show ClsV _ (.func (.func 67) #[] #[]) .st from rfl)).mono ?_
      rintro e W1 ⟨rfl, hkk⟩
      have kk : KB F0 B0 W1 := KB.trans (by repeat (first | exact KB.refl _ _ | refine KB.alloc ?_ _)) hkk
      replace c2 := kk.cell (p := ⟨w.heap.size, 2, none⟩) (fun x => x) c2
      replace c3 := kk.cell (p := ⟨w.heap.size, 3, none⟩) (fun x => x) c3
      replace K := K.trans kk
      clear kk hkk
      go_wp2_with fail
      go_ret
      exact ⟨ret_eq (by rw [Hr.out]; rfl), K⟩
    · cases b1
      · go_enter Tryd.func60, Tryd.ntmps60
        go_wp2_with fail
        rw [← HB0.out]
        try rw [HB0s.out]
        refine (HA.out _ _ (K.trans (by repeat (first | exact KB.refl _ _ | refine KB.alloc ?_ _))) (show ClsV _ (.func (.func 67) #[] #[]) .st from rfl)).mono ?_
        rintro e W1 ⟨rfl, hkk⟩
        have kk : KB F0 B0 W1 := KB.trans (by repeat (first | exact KB.refl _ _ | refine KB.alloc ?_ _)) hkk
        replace c2 := kk.cell (p := ⟨w.heap.size, 2, none⟩) (fun x => x) c2
        replace c3 := kk.cell (p := ⟨w.heap.size, 3, none⟩) (fun x => x) c3
        replace K := K.trans kk
        clear kk hkk
        go_wp2_with fail
        go_ret
        exact ⟨ret_eq (by rw [Hr.out]; rfl), K⟩

      · cases b2
        · go_enter Tryd.func60, Tryd.ntmps60
          go_wp2_with fail
          rw [← HB0.out]
          try rw [HB0s.out]
          refine (HA.out _ _ (K.trans (by repeat (first | exact KB.refl _ _ | refine KB.alloc ?_ _))) (show ClsV _ (.func (.func 67) #[] #[]) .st from rfl)).mono ?_
          rintro e W1 ⟨rfl, hkk⟩
          have kk : KB F0 B0 W1 := KB.trans (by repeat (first | exact KB.refl _ _ | refine KB.alloc ?_ _)) hkk
          replace c2 := kk.cell (p := ⟨w.heap.size, 2, none⟩) (fun x => x) c2
          replace c3 := kk.cell (p := ⟨w.heap.size, 3, none⟩) (fun x => x) c3
          replace K := K.trans kk
          clear kk hkk
          go_wp2_with fail
          go_ret
          exact ⟨ret_eq (by rw [Hr.out]; rfl), K⟩

        · go_enter Tryd.func60, Tryd.ntmps60
          go_wp2_with fail
          rw [← HB0.out]
          try rw [HB0s.out]
          refine (HA.out _ _ (K.trans (by repeat (first | exact KB.refl _ _ | refine KB.alloc ?_ _))) (show ClsV _ (.func (.func 67) #[] #[]) .st from rfl)).mono ?_
          rintro e W1 ⟨rfl, hkk⟩
          have kk : KB F0 B0 W1 := KB.trans (by repeat (first | exact KB.refl _ _ | refine KB.alloc ?_ _)) hkk
          replace c2 := kk.cell (p := ⟨w.heap.size, 2, none⟩) (fun x => x) c2
          replace c3 := kk.cell (p := ⟨w.heap.size, 3, none⟩) (fun x => x) c3
          replace K := K.trans kk
          clear kk hkk
          go_wp2_with fail
          go_ret
          exact ⟨ret_eq (by rw [Hr.out]; rfl), K⟩

set_option maxRecDepth 100000 in
set_option maxHeartbeats 4000000 in
theorem asks_15 (at_ n : Int) (s : ByteArray) (la : Option Addr) (ll lc : Nat) (a : Option Addr) (l : List Nat) (cap : Nat) (w : World) (_hs : s.size ≤ 9223372036854775807) (hl : l.length ≤ 9223372036854775807) (ha : KindsAt w a l) (_hT : Tab w) (_hn1 : -9223372036854775808 ≤ n) (_hn2 : n ≤ 9223372036854775807) :
    Calls Tryd.prog 60 #[.agg #[.int .u8 15, .int .i64 at_, .int .i64 n, .string s, .slice la ll lc], .slice a l.length cap] w fun e w' => e = .returned (.bool (askB 15 n s l)) ∧ KB F0 w w' := by
  have Hr : Hid (askB 15 n s l = (justB l [.ex, .ex] && emptyB s && decide ((0 : Int) ≤ n) && decide (n ≤ (0 : Int)))) := Lib.hid rfl
  obtain ⟨B0, hB0⟩ : ∃ B0, B0 = (w.alloc (.cells #[.int .u8 15, .int .i64 at_, .int .i64 n, .string s, .slice la ll lc] 25)) := ⟨_, rfl⟩
  have K : KB F0 w B0 := by subst hB0; exact (KB.refl _ _).alloc _
  have c2 : B0.cell? ⟨w.heap.size, 2, none⟩ = some (.int .i64 n) := by subst hB0; exact new_cell _ _ _ 2
  have c3 : B0.cell? ⟨w.heap.size, 3, none⟩ = some (.string s) := by subst hB0; exact new_cell _ _ _ 3
  have HB0s : Hid (w.heap.size + 1 = B0.heap.size) := Lib.hid (by subst hB0; simp)
  have HB0 := Lib.hid hB0
  clear hB0
  have HJ := Lib.hid (fun W a2 cap2 (hk : KB F0 w W) (hc : ClsAt W a2 [.ex, .ex]) => justV a a2 l [.ex, .ex] cap cap2 W hl (by decide) (ha.kbF hk) hc)
  generalize justB l [.ex, .ex] = b0 at HJ Hr
  have tE : s.toList.isEmpty = emptyB s := rfl
  generalize emptyB s = bE at tE Hr
  obtain ⟨b1, hb1⟩ : ∃ b, decide ((0 : Int) ≤ n) = b := ⟨_, rfl⟩
  obtain ⟨b2, hb2⟩ : ∃ b, decide (n ≤ (0 : Int)) = b := ⟨_, rfl⟩
  rw [hb1, hb2] at Hr
  clear ha _hT
  cases b0
  · go_enter Tryd.func60, Tryd.ntmps60
    go_wp2_with fail
    rw [← HB0.out]
    try rw [HB0s.out]
    refine (HJ.out _ _ _ (K.trans (by repeat (first | exact KB.refl _ _ | refine KB.alloc ?_ _))) (clsat2 (W := B0) (show ClsV _ (.func (.func 70) #[] #[]) .ex from rfl) (show ClsV _ (.func (.func 70) #[] #[]) .ex from rfl))).mono ?_
    rintro e W1 ⟨rfl, hkk⟩
    have kk : KB F0 B0 W1 := KB.trans (by repeat (first | exact KB.refl _ _ | refine KB.alloc ?_ _)) hkk
    replace c2 := kk.cell (p := ⟨w.heap.size, 2, none⟩) (fun x => x) c2
    replace c3 := kk.cell (p := ⟨w.heap.size, 3, none⟩) (fun x => x) c3
    replace K := K.trans kk
    clear kk hkk
    go_wp2_with fail
    go_ret
    exact ⟨ret_eq (by rw [Hr.out]; rfl), K⟩
  · cases bE
    · go_enter Tryd.func60, Tryd.ntmps60
      go_wp2_with fail
      rw [← HB0.out]
      try rw [HB0s.out]
      refine (HJ.out _ _ _ (K.trans (by repeat (first | exact KB.refl _ _ | refine KB.alloc ?_ _))) (clsat2 (W := B0) (show ClsV _ (.func (.func 70) #[] #[]) .ex from rfl) (show ClsV _ (.func (.func 70) #[] #[]) .ex from rfl))).mono ?_
      rintro e W1 ⟨rfl, hkk⟩
      have kk : KB F0 B0 W1 := KB.trans (by repeat (first | exact KB.refl _ _ | refine KB.alloc ?_ _)) hkk
      replace c2 := kk.cell (p := ⟨w.heap.size, 2, none⟩) (fun x => x) c2
      replace c3 := kk.cell (p := ⟨w.heap.size, 3, none⟩) (fun x => x) c3
      replace K := K.trans kk
      clear kk hkk
      go_wp2_with fail
      go_ret
      exact ⟨ret_eq (by rw [Hr.out]; rfl), K⟩
    · cases b1
      · go_enter Tryd.func60, Tryd.ntmps60
        go_wp2_with fail
        rw [← HB0.out]
        try rw [HB0s.out]
        refine (HJ.out _ _ _ (K.trans (by repeat (first | exact KB.refl _ _ | refine KB.alloc ?_ _))) (clsat2 (W := B0) (show ClsV _ (.func (.func 70) #[] #[]) .ex from rfl) (show ClsV _ (.func (.func 70) #[] #[]) .ex from rfl))).mono ?_
        rintro e W1 ⟨rfl, hkk⟩
        have kk : KB F0 B0 W1 := KB.trans (by repeat (first | exact KB.refl _ _ | refine KB.alloc ?_ _)) hkk
        replace c2 := kk.cell (p := ⟨w.heap.size, 2, none⟩) (fun x => x) c2
        replace c3 := kk.cell (p := ⟨w.heap.size, 3, none⟩) (fun x => x) c3
        replace K := K.trans kk
        clear kk hkk
        go_wp2_with fail
        go_ret
        exact ⟨ret_eq (by rw [Hr.out]; rfl), K⟩

      · cases b2
        · go_enter Tryd.func60, Tryd.ntmps60
          go_wp2_with fail
          rw [← HB0.out]
          try rw [HB0s.out]
          refine (HJ.out _ _ _ (K.trans (by repeat (first | exact KB.refl _ _ | refine KB.alloc ?_ _))) (clsat2 (W := B0) (show ClsV _ (.func (.func 70) #[] #[]) .ex from rfl) (show ClsV _ (.func (.func 70) #[] #[]) .ex from rfl))).mono ?_
          rintro e W1 ⟨rfl, hkk⟩
          have kk : KB F0 B0 W1 := KB.trans (by repeat (first | exact KB.refl _ _ | refine KB.alloc ?_ _)) hkk
          replace c2 := kk.cell (p := ⟨w.heap.size, 2, none⟩) (fun x => x) c2
          replace c3 := kk.cell (p := ⟨w.heap.size, 3, none⟩) (fun x => x) c3
          replace K := K.trans kk
          clear kk hkk
          go_wp2_with fail
          go_ret
          exact ⟨ret_eq (by rw [Hr.out]; rfl), K⟩

        · go_enter Tryd.func60, Tryd.ntmps60
          go_wp2_with fail
          rw [← HB0.out]
          try rw [HB0s.out]
          refine (HJ.out _ _ _ (K.trans (by repeat (first | exact KB.refl _ _ | refine KB.alloc ?_ _))) (clsat2 (W := B0) (show ClsV _ (.func (.func 70) #[] #[]) .ex from rfl) (show ClsV _ (.func (.func 70) #[] #[]) .ex from rfl))).mono ?_
          rintro e W1 ⟨rfl, hkk⟩
          have kk : KB F0 B0 W1 := KB.trans (by repeat (first | exact KB.refl _ _ | refine KB.alloc ?_ _)) hkk
          replace c2 := kk.cell (p := ⟨w.heap.size, 2, none⟩) (fun x => x) c2
          replace c3 := kk.cell (p := ⟨w.heap.size, 3, none⟩) (fun x => x) c3
          replace K := K.trans kk
          clear kk hkk
          go_wp2_with fail
          go_ret
          exact ⟨ret_eq (by rw [Hr.out]; rfl), K⟩

set_option maxRecDepth 100000 in
set_option maxHeartbeats 4000000 in
theorem asks_17 (at_ n : Int) (s : ByteArray) (la : Option Addr) (ll lc : Nat) (a : Option Addr) (l : List Nat) (cap : Nat) (w : World) (_hs : s.size ≤ 9223372036854775807) (hl : l.length ≤ 9223372036854775807) (ha : KindsAt w a l) (_hT : Tab w) (_hn1 : -9223372036854775808 ≤ n) (_hn2 : n ≤ 9223372036854775807) :
    Calls Tryd.prog 60 #[.agg #[.int .u8 17, .int .i64 at_, .int .i64 n, .string s, .slice la ll lc], .slice a l.length cap] w fun e w' => e = .returned (.bool (askB 17 n s l)) ∧ KB F0 w w' := by
  have Hr : Hid (askB 17 n s l = (justB l [.ex, .kd [13]] && emptyB s && decide ((0 : Int) ≤ n) && decide (n ≤ (0 : Int)))) := Lib.hid rfl
  obtain ⟨B0, hB0⟩ : ∃ B0, B0 = (w.alloc (.cells #[.int .u8 17, .int .i64 at_, .int .i64 n, .string s, .slice la ll lc] 25)) := ⟨_, rfl⟩
  have K : KB F0 w B0 := by subst hB0; exact (KB.refl _ _).alloc _
  have c2 : B0.cell? ⟨w.heap.size, 2, none⟩ = some (.int .i64 n) := by subst hB0; exact new_cell _ _ _ 2
  have c3 : B0.cell? ⟨w.heap.size, 3, none⟩ = some (.string s) := by subst hB0; exact new_cell _ _ _ 3
  have HB0s : Hid (w.heap.size + 1 = B0.heap.size) := Lib.hid (by subst hB0; simp)
  have HB0 := Lib.hid hB0
  clear hB0
  have HJ := Lib.hid (fun W a2 cap2 (hk : KB F0 w W) (hc : ClsAt W a2 [.ex, .kd [13]]) => justV a a2 l [.ex, .kd [13]] cap cap2 W hl (by decide) (ha.kbF hk) hc)
  generalize justB l [.ex, .kd [13]] = b0 at HJ Hr
  have tE : s.toList.isEmpty = emptyB s := rfl
  generalize emptyB s = bE at tE Hr
  obtain ⟨b1, hb1⟩ : ∃ b, decide ((0 : Int) ≤ n) = b := ⟨_, rfl⟩
  obtain ⟨b2, hb2⟩ : ∃ b, decide (n ≤ (0 : Int)) = b := ⟨_, rfl⟩
  rw [hb1, hb2] at Hr
  clear ha _hT
  cases b0
  · go_enter Tryd.func60, Tryd.ntmps60
    go_wp2_with fail
    rw [← HB0.out]
    try rw [HB0s.out]
    refine (kindCall (ks := [13]) _ (by decide) (alloc_new B0 _)).mono ?_
    rintro e W1 ⟨kb1, rfl, hc0, hkk⟩
    have kk : KB F0 B0 W1 := KB.trans (by repeat (first | exact KB.refl _ _ | refine KB.alloc ?_ _)) hkk
    replace c2 := kk.cell (p := ⟨w.heap.size, 2, none⟩) (fun x => x) c2
    replace c3 := kk.cell (p := ⟨w.heap.size, 3, none⟩) (fun x => x) c3
    replace K := K.trans kk
    clear kk hkk
    go_wp2_with fail
    refine (HJ.out _ _ _ (K.trans (by repeat (first | exact KB.refl _ _ | refine KB.alloc ?_ _))) (clsat2 (W := W1) (show ClsV _ (.func (.func 70) #[] #[]) .ex from rfl) hc0)).mono ?_
    rintro e W2 ⟨rfl, hkk⟩
    have kk : KB F0 W1 W2 := KB.trans (by repeat (first | exact KB.refl _ _ | refine KB.alloc ?_ _)) hkk
    replace c2 := kk.cell (p := ⟨w.heap.size, 2, none⟩) (fun x => x) c2
    replace c3 := kk.cell (p := ⟨w.heap.size, 3, none⟩) (fun x => x) c3
    replace K := K.trans kk
    clear kk hkk
    go_wp2_with fail
    go_ret
    exact ⟨ret_eq (by rw [Hr.out]; rfl), K⟩
  · cases bE
    · go_enter Tryd.func60, Tryd.ntmps60
      go_wp2_with fail
      rw [← HB0.out]
      try rw [HB0s.out]
      refine (kindCall (ks := [13]) _ (by decide) (alloc_new B0 _)).mono ?_
      rintro e W1 ⟨kb1, rfl, hc0, hkk⟩
      have kk : KB F0 B0 W1 := KB.trans (by repeat (first | exact KB.refl _ _ | refine KB.alloc ?_ _)) hkk
      replace c2 := kk.cell (p := ⟨w.heap.size, 2, none⟩) (fun x => x) c2
      replace c3 := kk.cell (p := ⟨w.heap.size, 3, none⟩) (fun x => x) c3
      replace K := K.trans kk
      clear kk hkk
      go_wp2_with fail
      refine (HJ.out _ _ _ (K.trans (by repeat (first | exact KB.refl _ _ | refine KB.alloc ?_ _))) (clsat2 (W := W1) (show ClsV _ (.func (.func 70) #[] #[]) .ex from rfl) hc0)).mono ?_
      rintro e W2 ⟨rfl, hkk⟩
      have kk : KB F0 W1 W2 := KB.trans (by repeat (first | exact KB.refl _ _ | refine KB.alloc ?_ _)) hkk
      replace c2 := kk.cell (p := ⟨w.heap.size, 2, none⟩) (fun x => x) c2
      replace c3 := kk.cell (p := ⟨w.heap.size, 3, none⟩) (fun x => x) c3
      replace K := K.trans kk
      clear kk hkk
      go_wp2_with fail
      go_ret
      exact ⟨ret_eq (by rw [Hr.out]; rfl), K⟩
    · cases b1
      · go_enter Tryd.func60, Tryd.ntmps60
        go_wp2_with fail
        rw [← HB0.out]
        try rw [HB0s.out]
        refine (kindCall (ks := [13]) _ (by decide) (alloc_new B0 _)).mono ?_
        rintro e W1 ⟨kb1, rfl, hc0, hkk⟩
        have kk : KB F0 B0 W1 := KB.trans (by repeat (first | exact KB.refl _ _ | refine KB.alloc ?_ _)) hkk
        replace c2 := kk.cell (p := ⟨w.heap.size, 2, none⟩) (fun x => x) c2
        replace c3 := kk.cell (p := ⟨w.heap.size, 3, none⟩) (fun x => x) c3
        replace K := K.trans kk
        clear kk hkk
        go_wp2_with fail
        refine (HJ.out _ _ _ (K.trans (by repeat (first | exact KB.refl _ _ | refine KB.alloc ?_ _))) (clsat2 (W := W1) (show ClsV _ (.func (.func 70) #[] #[]) .ex from rfl) hc0)).mono ?_
        rintro e W2 ⟨rfl, hkk⟩
        have kk : KB F0 W1 W2 := KB.trans (by repeat (first | exact KB.refl _ _ | refine KB.alloc ?_ _)) hkk
        replace c2 := kk.cell (p := ⟨w.heap.size, 2, none⟩) (fun x => x) c2
        replace c3 := kk.cell (p := ⟨w.heap.size, 3, none⟩) (fun x => x) c3
        replace K := K.trans kk
        clear kk hkk
        go_wp2_with fail
        go_ret
        exact ⟨ret_eq (by rw [Hr.out]; rfl), K⟩

      · cases b2
        · go_enter Tryd.func60, Tryd.ntmps60
          go_wp2_with fail
          rw [← HB0.out]
          try rw [HB0s.out]
          refine (kindCall (ks := [13]) _ (by decide) (alloc_new B0 _)).mono ?_
          rintro e W1 ⟨kb1, rfl, hc0, hkk⟩
          have kk : KB F0 B0 W1 := KB.trans (by repeat (first | exact KB.refl _ _ | refine KB.alloc ?_ _)) hkk
          replace c2 := kk.cell (p := ⟨w.heap.size, 2, none⟩) (fun x => x) c2
          replace c3 := kk.cell (p := ⟨w.heap.size, 3, none⟩) (fun x => x) c3
          replace K := K.trans kk
          clear kk hkk
          go_wp2_with fail
          refine (HJ.out _ _ _ (K.trans (by repeat (first | exact KB.refl _ _ | refine KB.alloc ?_ _))) (clsat2 (W := W1) (show ClsV _ (.func (.func 70) #[] #[]) .ex from rfl) hc0)).mono ?_
          rintro e W2 ⟨rfl, hkk⟩
          have kk : KB F0 W1 W2 := KB.trans (by repeat (first | exact KB.refl _ _ | refine KB.alloc ?_ _)) hkk
          replace c2 := kk.cell (p := ⟨w.heap.size, 2, none⟩) (fun x => x) c2
          replace c3 := kk.cell (p := ⟨w.heap.size, 3, none⟩) (fun x => x) c3
          replace K := K.trans kk
          clear kk hkk
          go_wp2_with fail
          go_ret
          exact ⟨ret_eq (by rw [Hr.out]; rfl), K⟩

        · go_enter Tryd.func60, Tryd.ntmps60
          go_wp2_with fail
          rw [← HB0.out]
          try rw [HB0s.out]
          refine (kindCall (ks := [13]) _ (by decide) (alloc_new B0 _)).mono ?_
          rintro e W1 ⟨kb1, rfl, hc0, hkk⟩
          have kk : KB F0 B0 W1 := KB.trans (by repeat (first | exact KB.refl _ _ | refine KB.alloc ?_ _)) hkk
          replace c2 := kk.cell (p := ⟨w.heap.size, 2, none⟩) (fun x => x) c2
          replace c3 := kk.cell (p := ⟨w.heap.size, 3, none⟩) (fun x => x) c3
          replace K := K.trans kk
          clear kk hkk
          go_wp2_with fail
          refine (HJ.out _ _ _ (K.trans (by repeat (first | exact KB.refl _ _ | refine KB.alloc ?_ _))) (clsat2 (W := W1) (show ClsV _ (.func (.func 70) #[] #[]) .ex from rfl) hc0)).mono ?_
          rintro e W2 ⟨rfl, hkk⟩
          have kk : KB F0 W1 W2 := KB.trans (by repeat (first | exact KB.refl _ _ | refine KB.alloc ?_ _)) hkk
          replace c2 := kk.cell (p := ⟨w.heap.size, 2, none⟩) (fun x => x) c2
          replace c3 := kk.cell (p := ⟨w.heap.size, 3, none⟩) (fun x => x) c3
          replace K := K.trans kk
          clear kk hkk
          go_wp2_with fail
          go_ret
          exact ⟨ret_eq (by rw [Hr.out]; rfl), K⟩

set_option maxRecDepth 100000 in
set_option maxHeartbeats 4000000 in
theorem asks_18 (at_ n : Int) (s : ByteArray) (la : Option Addr) (ll lc : Nat) (a : Option Addr) (l : List Nat) (cap : Nat) (w : World) (_hs : s.size ≤ 9223372036854775807) (hl : l.length ≤ 9223372036854775807) (ha : KindsAt w a l) (_hT : Tab w) (_hn1 : -9223372036854775808 ≤ n) (_hn2 : n ≤ 9223372036854775807) :
    Calls Tryd.prog 60 #[.agg #[.int .u8 18, .int .i64 at_, .int .i64 n, .string s, .slice la ll lc], .slice a l.length cap] w fun e w' => e = .returned (.bool (askB 18 n s l)) ∧ KB F0 w w' := by
  have Hr : Hid (askB 18 n s l = (justB l [.kd [13]] && emptyB s && decide ((0 : Int) ≤ n) && decide (n ≤ (0 : Int)))) := Lib.hid rfl
  obtain ⟨B0, hB0⟩ : ∃ B0, B0 = (w.alloc (.cells #[.int .u8 18, .int .i64 at_, .int .i64 n, .string s, .slice la ll lc] 25)) := ⟨_, rfl⟩
  have K : KB F0 w B0 := by subst hB0; exact (KB.refl _ _).alloc _
  have c2 : B0.cell? ⟨w.heap.size, 2, none⟩ = some (.int .i64 n) := by subst hB0; exact new_cell _ _ _ 2
  have c3 : B0.cell? ⟨w.heap.size, 3, none⟩ = some (.string s) := by subst hB0; exact new_cell _ _ _ 3
  have HB0s : Hid (w.heap.size + 1 = B0.heap.size) := Lib.hid (by subst hB0; simp)
  have HB0 := Lib.hid hB0
  clear hB0
  have HJ := Lib.hid (fun W a2 cap2 (hk : KB F0 w W) (hc : ClsAt W a2 [.kd [13]]) => justV a a2 l [.kd [13]] cap cap2 W hl (by decide) (ha.kbF hk) hc)
  generalize justB l [.kd [13]] = b0 at HJ Hr
  have tE : s.toList.isEmpty = emptyB s := rfl
  generalize emptyB s = bE at tE Hr
  obtain ⟨b1, hb1⟩ : ∃ b, decide ((0 : Int) ≤ n) = b := ⟨_, rfl⟩
  obtain ⟨b2, hb2⟩ : ∃ b, decide (n ≤ (0 : Int)) = b := ⟨_, rfl⟩
  rw [hb1, hb2] at Hr
  clear ha _hT
  cases b0
  · go_enter Tryd.func60, Tryd.ntmps60
    go_wp2_with fail
    rw [← HB0.out]
    try rw [HB0s.out]
    refine (kindCall (ks := [13]) _ (by decide) (alloc_new B0 _)).mono ?_
    rintro e W1 ⟨kb1, rfl, hc0, hkk⟩
    have kk : KB F0 B0 W1 := KB.trans (by repeat (first | exact KB.refl _ _ | refine KB.alloc ?_ _)) hkk
    replace c2 := kk.cell (p := ⟨w.heap.size, 2, none⟩) (fun x => x) c2
    replace c3 := kk.cell (p := ⟨w.heap.size, 3, none⟩) (fun x => x) c3
    replace K := K.trans kk
    clear kk hkk
    go_wp2_with fail
    refine (HJ.out _ _ _ (K.trans (by repeat (first | exact KB.refl _ _ | refine KB.alloc ?_ _))) (clsat1 (W := W1) hc0)).mono ?_
    rintro e W2 ⟨rfl, hkk⟩
    have kk : KB F0 W1 W2 := KB.trans (by repeat (first | exact KB.refl _ _ | refine KB.alloc ?_ _)) hkk
    replace c2 := kk.cell (p := ⟨w.heap.size, 2, none⟩) (fun x => x) c2
    replace c3 := kk.cell (p := ⟨w.heap.size, 3, none⟩) (fun x => x) c3
    replace K := K.trans kk
    clear kk hkk
    go_wp2_with fail
    go_ret
    exact ⟨ret_eq (by rw [Hr.out]; rfl), K⟩
  · cases bE
    · go_enter Tryd.func60, Tryd.ntmps60
      go_wp2_with fail
      rw [← HB0.out]
      try rw [HB0s.out]
      refine (kindCall (ks := [13]) _ (by decide) (alloc_new B0 _)).mono ?_
      rintro e W1 ⟨kb1, rfl, hc0, hkk⟩
      have kk : KB F0 B0 W1 := KB.trans (by repeat (first | exact KB.refl _ _ | refine KB.alloc ?_ _)) hkk
      replace c2 := kk.cell (p := ⟨w.heap.size, 2, none⟩) (fun x => x) c2
      replace c3 := kk.cell (p := ⟨w.heap.size, 3, none⟩) (fun x => x) c3
      replace K := K.trans kk
      clear kk hkk
      go_wp2_with fail
      refine (HJ.out _ _ _ (K.trans (by repeat (first | exact KB.refl _ _ | refine KB.alloc ?_ _))) (clsat1 (W := W1) hc0)).mono ?_
      rintro e W2 ⟨rfl, hkk⟩
      have kk : KB F0 W1 W2 := KB.trans (by repeat (first | exact KB.refl _ _ | refine KB.alloc ?_ _)) hkk
      replace c2 := kk.cell (p := ⟨w.heap.size, 2, none⟩) (fun x => x) c2
      replace c3 := kk.cell (p := ⟨w.heap.size, 3, none⟩) (fun x => x) c3
      replace K := K.trans kk
      clear kk hkk
      go_wp2_with fail
      go_ret
      exact ⟨ret_eq (by rw [Hr.out]; rfl), K⟩
    · cases b1
      · go_enter Tryd.func60, Tryd.ntmps60
        go_wp2_with fail
        rw [← HB0.out]
        try rw [HB0s.out]
        refine (kindCall (ks := [13]) _ (by decide) (alloc_new B0 _)).mono ?_
        rintro e W1 ⟨kb1, rfl, hc0, hkk⟩
        have kk : KB F0 B0 W1 := KB.trans (by repeat (first | exact KB.refl _ _ | refine KB.alloc ?_ _)) hkk
        replace c2 := kk.cell (p := ⟨w.heap.size, 2, none⟩) (fun x => x) c2
        replace c3 := kk.cell (p := ⟨w.heap.size, 3, none⟩) (fun x => x) c3
        replace K := K.trans kk
        clear kk hkk
        go_wp2_with fail
        refine (HJ.out _ _ _ (K.trans (by repeat (first | exact KB.refl _ _ | refine KB.alloc ?_ _))) (clsat1 (W := W1) hc0)).mono ?_
        rintro e W2 ⟨rfl, hkk⟩
        have kk : KB F0 W1 W2 := KB.trans (by repeat (first | exact KB.refl _ _ | refine KB.alloc ?_ _)) hkk
        replace c2 := kk.cell (p := ⟨w.heap.size, 2, none⟩) (fun x => x) c2
        replace c3 := kk.cell (p := ⟨w.heap.size, 3, none⟩) (fun x => x) c3
        replace K := K.trans kk
        clear kk hkk
        go_wp2_with fail
        go_ret
        exact ⟨ret_eq (by rw [Hr.out]; rfl), K⟩

      · cases b2
        · go_enter Tryd.func60, Tryd.ntmps60
          go_wp2_with fail
          rw [← HB0.out]
          try rw [HB0s.out]
          refine (kindCall (ks := [13]) _ (by decide) (alloc_new B0 _)).mono ?_
          rintro e W1 ⟨kb1, rfl, hc0, hkk⟩
          have kk : KB F0 B0 W1 := KB.trans (by repeat (first | exact KB.refl _ _ | refine KB.alloc ?_ _)) hkk
          replace c2 := kk.cell (p := ⟨w.heap.size, 2, none⟩) (fun x => x) c2
          replace c3 := kk.cell (p := ⟨w.heap.size, 3, none⟩) (fun x => x) c3
          replace K := K.trans kk
          clear kk hkk
          go_wp2_with fail
          refine (HJ.out _ _ _ (K.trans (by repeat (first | exact KB.refl _ _ | refine KB.alloc ?_ _))) (clsat1 (W := W1) hc0)).mono ?_
          rintro e W2 ⟨rfl, hkk⟩
          have kk : KB F0 W1 W2 := KB.trans (by repeat (first | exact KB.refl _ _ | refine KB.alloc ?_ _)) hkk
          replace c2 := kk.cell (p := ⟨w.heap.size, 2, none⟩) (fun x => x) c2
          replace c3 := kk.cell (p := ⟨w.heap.size, 3, none⟩) (fun x => x) c3
          replace K := K.trans kk
          clear kk hkk
          go_wp2_with fail
          go_ret
          exact ⟨ret_eq (by rw [Hr.out]; rfl), K⟩

        · go_enter Tryd.func60, Tryd.ntmps60
          go_wp2_with fail
          rw [← HB0.out]
          try rw [HB0s.out]
          refine (kindCall (ks := [13]) _ (by decide) (alloc_new B0 _)).mono ?_
          rintro e W1 ⟨kb1, rfl, hc0, hkk⟩
          have kk : KB F0 B0 W1 := KB.trans (by repeat (first | exact KB.refl _ _ | refine KB.alloc ?_ _)) hkk
          replace c2 := kk.cell (p := ⟨w.heap.size, 2, none⟩) (fun x => x) c2
          replace c3 := kk.cell (p := ⟨w.heap.size, 3, none⟩) (fun x => x) c3
          replace K := K.trans kk
          clear kk hkk
          go_wp2_with fail
          refine (HJ.out _ _ _ (K.trans (by repeat (first | exact KB.refl _ _ | refine KB.alloc ?_ _))) (clsat1 (W := W1) hc0)).mono ?_
          rintro e W2 ⟨rfl, hkk⟩
          have kk : KB F0 W1 W2 := KB.trans (by repeat (first | exact KB.refl _ _ | refine KB.alloc ?_ _)) hkk
          replace c2 := kk.cell (p := ⟨w.heap.size, 2, none⟩) (fun x => x) c2
          replace c3 := kk.cell (p := ⟨w.heap.size, 3, none⟩) (fun x => x) c3
          replace K := K.trans kk
          clear kk hkk
          go_wp2_with fail
          go_ret
          exact ⟨ret_eq (by rw [Hr.out]; rfl), K⟩

set_option maxRecDepth 100000 in
set_option maxHeartbeats 4000000 in
theorem asks_19 (at_ n : Int) (s : ByteArray) (la : Option Addr) (ll lc : Nat) (a : Option Addr) (l : List Nat) (cap : Nat) (w : World) (_hs : s.size ≤ 9223372036854775807) (_hl : l.length ≤ 9223372036854775807) (_ha : KindsAt w a l) (_hT : Tab w) (_hn1 : -9223372036854775808 ≤ n) (_hn2 : n ≤ 9223372036854775807) :
    Calls Tryd.prog 60 #[.agg #[.int .u8 19, .int .i64 at_, .int .i64 n, .string s, .slice la ll lc], .slice a l.length cap] w fun e w' => e = .returned (.bool (askB 19 n s l)) ∧ KB F0 w w' := by
  have Hr : Hid (askB 19 n s l = (len0B l && emptyB s && decide ((0 : Int) ≤ n) && decide (n ≤ (0 : Int)))) := Lib.hid rfl
  obtain ⟨B0, hB0⟩ : ∃ B0, B0 = (w.alloc (.cells #[.int .u8 19, .int .i64 at_, .int .i64 n, .string s, .slice la ll lc] 25)) := ⟨_, rfl⟩
  have K : KB F0 w B0 := by subst hB0; exact (KB.refl _ _).alloc _
  have c2 : B0.cell? ⟨w.heap.size, 2, none⟩ = some (.int .i64 n) := by subst hB0; exact new_cell _ _ _ 2
  have c3 : B0.cell? ⟨w.heap.size, 3, none⟩ = some (.string s) := by subst hB0; exact new_cell _ _ _ 3
  have HB0s : Hid (w.heap.size + 1 = B0.heap.size) := Lib.hid (by subst hB0; simp)
  have HB0 := Lib.hid hB0
  clear hB0
  have t0 : ((l.length : Int) == 0) = len0B l := deq1 rfl
  generalize len0B l = b0 at t0 Hr
  have tE : s.toList.isEmpty = emptyB s := rfl
  generalize emptyB s = bE at tE Hr
  obtain ⟨b1, hb1⟩ : ∃ b, decide ((0 : Int) ≤ n) = b := ⟨_, rfl⟩
  obtain ⟨b2, hb2⟩ : ∃ b, decide (n ≤ (0 : Int)) = b := ⟨_, rfl⟩
  rw [hb1, hb2] at Hr
  clear _ha _hT
  cases b0
  · go_enter Tryd.func60, Tryd.ntmps60
    go_wp2_with fail
    rw [← HB0.out]
    try rw [HB0s.out]
    go_ret
    exact ⟨ret_eq (by rw [Hr.out]; rfl), K⟩
  · cases bE
    · go_enter Tryd.func60, Tryd.ntmps60
      go_wp2_with fail
      rw [← HB0.out]
      try rw [HB0s.out]
      go_ret
      exact ⟨ret_eq (by rw [Hr.out]; rfl), K⟩
    · cases b1
      · go_enter Tryd.func60, Tryd.ntmps60
        go_wp2_with fail
        rw [← HB0.out]
        try rw [HB0s.out]
        go_ret
        exact ⟨ret_eq (by rw [Hr.out]; rfl), K⟩

      · cases b2
        · go_enter Tryd.func60, Tryd.ntmps60
          go_wp2_with fail
          rw [← HB0.out]
          try rw [HB0s.out]
          go_ret
          exact ⟨ret_eq (by rw [Hr.out]; rfl), K⟩

        · go_enter Tryd.func60, Tryd.ntmps60
          go_wp2_with fail
          rw [← HB0.out]
          try rw [HB0s.out]
          go_ret
          exact ⟨ret_eq (by rw [Hr.out]; rfl), K⟩

set_option maxRecDepth 100000 in
set_option maxHeartbeats 4000000 in
theorem asks_20 (at_ n : Int) (s : ByteArray) (la : Option Addr) (ll lc : Nat) (a : Option Addr) (l : List Nat) (cap : Nat) (w : World) (_hs : s.size ≤ 9223372036854775807) (_hl : l.length ≤ 9223372036854775807) (_ha : KindsAt w a l) (_hT : Tab w) (_hn1 : -9223372036854775808 ≤ n) (_hn2 : n ≤ 9223372036854775807) :
    Calls Tryd.prog 60 #[.agg #[.int .u8 20, .int .i64 at_, .int .i64 n, .string s, .slice la ll lc], .slice a l.length cap] w fun e w' => e = .returned (.bool (askB 20 n s l)) ∧ KB F0 w w' := by
  have Hr : Hid (askB 20 n s l = (len0B l && emptyB s && decide ((0 : Int) ≤ n) && decide (n ≤ (0 : Int)))) := Lib.hid rfl
  obtain ⟨B0, hB0⟩ : ∃ B0, B0 = (w.alloc (.cells #[.int .u8 20, .int .i64 at_, .int .i64 n, .string s, .slice la ll lc] 25)) := ⟨_, rfl⟩
  have K : KB F0 w B0 := by subst hB0; exact (KB.refl _ _).alloc _
  have c2 : B0.cell? ⟨w.heap.size, 2, none⟩ = some (.int .i64 n) := by subst hB0; exact new_cell _ _ _ 2
  have c3 : B0.cell? ⟨w.heap.size, 3, none⟩ = some (.string s) := by subst hB0; exact new_cell _ _ _ 3
  have HB0s : Hid (w.heap.size + 1 = B0.heap.size) := Lib.hid (by subst hB0; simp)
  have HB0 := Lib.hid hB0
  clear hB0
  have t0 : ((l.length : Int) == 0) = len0B l := deq1 rfl
  generalize len0B l = b0 at t0 Hr
  have tE : s.toList.isEmpty = emptyB s := rfl
  generalize emptyB s = bE at tE Hr
  obtain ⟨b1, hb1⟩ : ∃ b, decide ((0 : Int) ≤ n) = b := ⟨_, rfl⟩
  obtain ⟨b2, hb2⟩ : ∃ b, decide (n ≤ (0 : Int)) = b := ⟨_, rfl⟩
  rw [hb1, hb2] at Hr
  clear _ha _hT
  cases b0
  · go_enter Tryd.func60, Tryd.ntmps60
    go_wp2_with fail
    rw [← HB0.out]
    try rw [HB0s.out]
    go_ret
    exact ⟨ret_eq (by rw [Hr.out]; rfl), K⟩
  · cases bE
    · go_enter Tryd.func60, Tryd.ntmps60
      go_wp2_with fail
      rw [← HB0.out]
      try rw [HB0s.out]
      go_ret
      exact ⟨ret_eq (by rw [Hr.out]; rfl), K⟩
    · cases b1
      · go_enter Tryd.func60, Tryd.ntmps60
        go_wp2_with fail
        rw [← HB0.out]
        try rw [HB0s.out]
        go_ret
        exact ⟨ret_eq (by rw [Hr.out]; rfl), K⟩

      · cases b2
        · go_enter Tryd.func60, Tryd.ntmps60
          go_wp2_with fail
          rw [← HB0.out]
          try rw [HB0s.out]
          go_ret
          exact ⟨ret_eq (by rw [Hr.out]; rfl), K⟩

        · go_enter Tryd.func60, Tryd.ntmps60
          go_wp2_with fail
          rw [← HB0.out]
          try rw [HB0s.out]
          go_ret
          exact ⟨ret_eq (by rw [Hr.out]; rfl), K⟩

end Go.Proofs.YtjefoojkgocinaaDoor

/- loanwordref09.step. -/
import Derived.Test.YtpigppghcghpbaaGreatDoorPwB
namespace Go.Proofs.YtpigppghcghpbaaGreatDoor
open Go.RowKit

/-- What a step answers. -/
def StpEnd (S : List (List Ty)) (B0 w : World) (t : Ty) (ta : Option Addr) (tc : Nat) (o : Option (Ty × Int)) (e : Ending) (w' : World) : Prop := KB F0 w w' ∧
  match o with
  | none => e = .returned (.tuple #[tyV t ta tc, .int .i64 0, .bool false])
  | some x => ∃ ua uc, e = .returned (.tuple #[tyV x.1 ua uc, .int .i64 x.2, .bool true]) ∧ OnWay S B0 x.1 ua uc
theorem stpEnd_none {S : List (List Ty)} {B0 w w' : World} {t : Ty} {ta : Option Addr} {tc : Nat} {o : Option (Ty × Int)} (h : o = none) (hk : KB F0 w w') : StpEnd S B0 w t ta tc o (.returned (.tuple #[.agg #[.int .u8 t.k, .bool t.m, .int .i64 t.r, .int .i64 t.s, .slice ta t.of.length tc], .int .i64 0, .bool false])) w' := by
  subst h; exact ⟨hk, rfl⟩
theorem stpEnd_some {S : List (List Ty)} {B0 w w' : World} {t u : Ty} {ta ua : Option Addr} {tc uc : Nat} {o : Option (Ty × Int)} {x : Int} (h : o = some (u, x)) (hon : OnWay S B0 u ua uc) (hk : KB F0 w w') : StpEnd S B0 w t ta tc o (.returned (.tuple #[.agg #[.int .u8 u.k, .bool u.m, .int .i64 u.r, .int .i64 u.s, .slice ua u.of.length uc], .int .i64 x, .bool true])) w' := by
  subst h; exact ⟨hk, ua, uc, rfl, hon⟩
set_option maxRecDepth 100000 in
set_option maxHeartbeats 64000000 in
theorem rwStep_any (S : List (List Ty)) (hg : GoodS S) (sa : Option Addr) (sc : Nat) (hsc : S.length ≤ sc) (t : Ty) (ta : Option Addr) (tc : Nat) (k : Int) (B0 w : World) (hB0 : KB F0 B0 w) (hS : StsAt 49 B0 sa S) (hon : OnWay S B0 t ta tc) :
    Calls Tryz.prog 39 #[.slice sa S.length sc, tyV t ta tc, .int .i64 k] w (StpEnd S B0 w t ta tc (stepP S t k)) := by
  obtain ⟨w0, rfl⟩ : ∃ w0, w0 = w := ⟨_, rfl⟩
  obtain ⟨hk, hb1, hb2⟩ := new2 w0 #[.int .u8 t.k, .bool t.m, .int .i64 t.r, .int .i64 t.s, .slice ta t.of.length tc] ty0c 36 36
  unfold ty0c at hk hb1 hb2
  obtain ⟨W, hW⟩ : ∃ W, W = ((w0.alloc (.cells #[.int .u8 t.k, .bool t.m, .int .i64 t.r, .int .i64 t.s, .slice ta t.of.length tc] 36)).alloc (.cells #[.int .u8 0, .bool false, .int .i64 0, .int .i64 0, .slice none 0 0] 36)) := ⟨_, rfl⟩
  rw [← hW] at hk hb1 hb2
  have c0 : W.cell? ⟨w0.heap.size, 0, none⟩ = some (.int .u8 t.k) := blk_cell hb1 0
  have c1 : W.cell? ⟨w0.heap.size, 1, none⟩ = some (.bool t.m) := blk_cell hb1 1
  have c2 : W.cell? ⟨w0.heap.size, 2, none⟩ = some (.int .i64 t.r) := blk_cell hb1 2
  have c3 : W.cell? ⟨w0.heap.size, 3, none⟩ = some (.int .i64 t.s) := blk_cell hb1 3
  have c4 : W.cell? ⟨w0.heap.size, 4, none⟩ = some (.slice ta t.of.length tc) := blk_cell hb1 4
  have d0 : W.cell? ⟨w0.heap.size + 1, 0, none⟩ = some (.int .u8 0) := blk_cell hb2 0
  have d1 : W.cell? ⟨w0.heap.size + 1, 1, none⟩ = some (.bool false) := blk_cell hb2 1
  have d2 : W.cell? ⟨w0.heap.size + 1, 2, none⟩ = some (.int .i64 0) := blk_cell hb2 2
  have d3 : W.cell? ⟨w0.heap.size + 1, 3, none⟩ = some (.int .i64 0) := blk_cell hb2 3
  have d4 : W.cell? ⟨w0.heap.size + 1, 4, none⟩ = some (.slice none 0 0) := blk_cell hb2 4
  have f0 := blk_frozen hb2 0
  have f1 := blk_frozen hb2 1
  have f2 := blk_frozen hb2 2
  have f3 := blk_frozen hb2 3
  have f4 := blk_frozen hb2 4
  have HB := Lib.hid (And.intro hk (And.intro hb1 hb2))
  have HW := Lib.hid hW
  obtain ⟨nS, hnS⟩ : ∃ n, n = S.length := ⟨_, rfl⟩
  rw [← hnS] at hsc ⊢
  obtain ⟨O, hO⟩ : ∃ O, O = stepP S t k := ⟨_, rfl⟩
  rw [← hO]
  have HO0 := Lib.hid hO
  have HS := Lib.hid hS
  have HKB := Lib.hid hB0
  unfold tyV
  clear hk hb1 hb2 hW hO hS hB0
  by_cases hk1 : k = -1
  · by_cases hkd : t.k = 3
    · have HO : Hid (O = some (in0 t, 1)) := Lib.hid (by rw [HO0.out]; unfold stepP; rw [if_pos ⟨hk1, hkd⟩])
      obtain ⟨ib, io, ia, ic, rfl, hone, htc, hic, hin⟩ := hon.deref (by first | exact Or.inl hkd | exact Or.inr hkd)
      obtain ⟨j0, j1, j2, j3, j4⟩ := hic.kbF (HKB.out.trans HB.out.1)
      have HIN := Lib.hid hin
      rw [hone] at c4 HW
      have htcI : (1 : Int) ≤ (tc : Int) := by omega
      generalize in0 t = v at j0 j1 j2 j3 j4 HIN HO
      rw [hkd] at c0 HW
      have HDD := Lib.hid (And.intro hone hkd)
      have hk2 := hk1
      clear hk1
      subst hk2
      rw [hone, hkd]
      clear hon hin hic hone hkd
      go_enter Tryz.func39, Tryz.ntmps39
      go_upto_region 1 with fail
      rw [← HW.out]
      go_wp2_with fail
      refine ret_tyI3 (X := w0.heap.size + 1) rfl rfl rfl rfl (set5_blk HB.out.2.2 (.int .u8 v.k) (.bool v.m) (.int .i64 v.r) (.int .i64 v.s) (.slice ia v.of.length ic)) rfl ?_
      exact stpEnd_some HO.out HIN.out (set5_new HB.out.1 (show w0.heap.size ≤ w0.heap.size + 1 by omega) _ _ _ _ _)
    · by_cases hk4 : t.k = 4
      · have hkd := hk4
        clear hk4
        cases hm : t.m with
        | true =>
          have HO : Hid (O = some (in0 t, 2)) := Lib.hid (by rw [HO0.out]; unfold stepP; rw [if_neg (by omega), if_pos ⟨hk1, hkd, hm⟩])
          obtain ⟨ib, io, ia, ic, rfl, hone, htc, hic, hin⟩ := hon.deref (by first | exact Or.inl hkd | exact Or.inr hkd)
          obtain ⟨j0, j1, j2, j3, j4⟩ := hic.kbF (HKB.out.trans HB.out.1)
          have HIN := Lib.hid hin
          rw [hone] at c4 HW
          have htcI : (1 : Int) ≤ (tc : Int) := by omega
          generalize in0 t = v at j0 j1 j2 j3 j4 HIN HO
          rw [hkd] at c0 HW
          rw [hm] at c1 HW
          have HDD := Lib.hid (And.intro hone hkd)
          have HMM := Lib.hid hm
          have hk2 := hk1
          clear hk1
          subst hk2
          rw [hone, hkd]
          clear hon hin hic hone hkd hm
          go_enter Tryz.func39, Tryz.ntmps39
          go_upto_region 1 with fail
          rw [← HW.out]
          go_wp2_with fail
          refine ret_tyI3 (X := w0.heap.size + 1) rfl rfl rfl rfl (set5_blk HB.out.2.2 (.int .u8 v.k) (.bool v.m) (.int .i64 v.r) (.int .i64 v.s) (.slice ia v.of.length ic)) rfl ?_
          exact stpEnd_some HO.out HIN.out (set5_new HB.out.1 (show w0.heap.size ≤ w0.heap.size + 1 by omega) _ _ _ _ _)
        | false =>
          have HO : Hid (O = some (in0 t, 3)) := Lib.hid (by rw [HO0.out]; unfold stepP; rw [if_neg (by omega), if_neg (by rw [hm]; simp), if_pos ⟨hk1, hkd⟩])
          obtain ⟨ib, io, ia, ic, rfl, hone, htc, hic, hin⟩ := hon.deref (by first | exact Or.inl hkd | exact Or.inr hkd)
          obtain ⟨j0, j1, j2, j3, j4⟩ := hic.kbF (HKB.out.trans HB.out.1)
          have HIN := Lib.hid hin
          rw [hone] at c4 HW
          have htcI : (1 : Int) ≤ (tc : Int) := by omega
          generalize in0 t = v at j0 j1 j2 j3 j4 HIN HO
          rw [hkd] at c0 HW
          rw [hm] at c1 HW
          have HDD := Lib.hid (And.intro hone hkd)
          have HMM := Lib.hid hm
          have hk2 := hk1
          clear hk1
          subst hk2
          rw [hone, hkd]
          clear hon hin hic hone hkd hm
          go_enter Tryz.func39, Tryz.ntmps39
          go_upto_region 1 with fail
          rw [← HW.out]
          go_wp2_with fail
          refine ret_tyI3 (X := w0.heap.size + 1) rfl rfl rfl rfl (set5_blk HB.out.2.2 (.int .u8 v.k) (.bool v.m) (.int .i64 v.r) (.int .i64 v.s) (.slice ia v.of.length ic)) rfl ?_
          exact stpEnd_some HO.out HIN.out (set5_new HB.out.1 (show w0.heap.size ≤ w0.heap.size + 1 by omega) _ _ _ _ _)
      · have e3 : (t.k == 3) = false := by simpa using hkd
        have e4 : (t.k == 4) = false := by simpa using hk4
        have hsp : stepP S t k = none := by
          unfold stepP
          rw [if_neg (by omega), if_neg (by omega), if_neg (by omega), if_pos (by omega)]
        have hk2 := hk1
        clear hk1
        subst hk2
        have HO : Hid (O = none) := Lib.hid (by rw [HO0.out]; exact hsp)
        clear hon hsp
        go_enter Tryz.func39, Tryz.ntmps39
        go_upto_region 1 with fail
        rw [← HW.out]
        go_wp2_with fail
        refine ret_tyI3 (X := w0.heap.size + 1) rfl rfl rfl rfl (set5_blk HB.out.2.2 (.int .u8 t.k) (.bool t.m) (.int .i64 t.r) (.int .i64 t.s) (.slice ta t.of.length tc)) rfl ?_
        exact stpEnd_none HO.out (set5_new HB.out.1 (show w0.heap.size ≤ w0.heap.size + 1 by omega) _ _ _ _ _)
  · have e1 : (k == -1) = false := by simpa using hk1
    by_cases hkd : t.k = 5
    · have e5 : (t.k != 5) = false := by simpa using hkd
      by_cases hkn : k < 0
      · have dkn : decide (k < 0) = true := decide_eq_true hkn
        have hsp : stepP S t k = none := by unfold stepP; rw [if_neg (by omega), if_neg (by omega), if_neg (by omega), if_pos (by omega)]
        clear hkd
        have HO : Hid (O = none) := Lib.hid (by rw [HO0.out]; exact hsp)
        clear hon hsp
        go_enter Tryz.func39, Tryz.ntmps39
        go_upto_region 1 with fail
        rw [← HW.out]
        go_wp2_with fail
        refine ret_tyI3 (X := w0.heap.size + 1) rfl rfl rfl rfl (set5_blk HB.out.2.2 (.int .u8 t.k) (.bool t.m) (.int .i64 t.r) (.int .i64 t.s) (.slice ta t.of.length tc)) rfl ?_
        exact stpEnd_none HO.out (set5_new HB.out.1 (show w0.heap.size ≤ w0.heap.size + 1 by omega) _ _ _ _ _)
      · have dkn : decide (k < 0) = false := decide_eq_false hkn
        obtain ⟨d9, hd9, hl9, -⟩ := hon
        have hss := look_struct hl9 hkd
        obtain ⟨m, hm⟩ : ∃ m : Nat, t.s = m := ⟨t.s.toNat, by omega⟩
        have hmn : t.s.toNat = m := by omega
        obtain ⟨sb, so, snm, fa, fc, rfl, -, hfl0, hflc, hfd⟩ := HS.out m (by omega)
        have hfl := (HKB.out.trans HB.out.1).cell (p := ⟨sb, so + m * 2 + 1, none⟩) (fun x => x) hfl0
        obtain ⟨F, hF⟩ : ∃ F, F = (fds S m).length := ⟨_, rfl⟩
        rw [show (S.getD m []).length = F from hF.symm] at hfl hflc
        have hmI : (m : Int) < (nS : Int) := by omega
        have hmN : m < nS := by omega
        rw [hm] at c3
        by_cases hkf : (F : Int) ≤ k
        · have dkf : decide ((F : Int) ≤ k) = true := decide_eq_true hkf
          have HO : Hid (O = none) := Lib.hid (by rw [HO0.out]; unfold stepP; rw [if_neg (by omega), if_neg (by omega), if_neg (by omega), if_pos (by rw [hmn, ← hF]; omega)])
          have HMM := Lib.hid hm
          rw [hm] at HW
          rw [hm]
          clear hkd hss hl9 hd9 hfl0 hmn hF hfd hm
          go_enter Tryz.func39, Tryz.ntmps39
          go_upto_region 1 with fail
          rw [← HW.out]
          go_wp2_with fail
          have HB3 := HB.out.2.2
          refine ret_tyI3 (X := w0.heap.size + 1) rfl rfl rfl rfl (set5_blk HB.out.2.2 (.int .u8 t.k) (.bool t.m) (.int .i64 t.r) (.int .i64 (m : Nat)) (.slice ta t.of.length tc)) rfl ?_
          rw [← HMM.out]
          exact stpEnd_none HO.out (set5_new HB.out.1 (show w0.heap.size ≤ w0.heap.size + 1 by omega) _ _ _ _ _)
        · have dkf : decide ((F : Int) ≤ k) = false := decide_eq_false hkf
          obtain ⟨z, hz⟩ : ∃ z : Nat, k = z := ⟨k.toNat, by omega⟩
          have hzl : z < (fds S m).length := by omega
          obtain ⟨fb, fo, fnm, ia, ic, rfl, -, hic, hta⟩ := hfd z hzl
          have hin : OnWay S B0 ((fds S m).getD z ty0) ia ic := by
            refine ⟨48, Nat.le_refl _, ?_, hta⟩
            have := (sB1_fds (hg.b1 m (by omega))).2.2 _ (getD_mem hzl)
            rw [mayB_bare] at this
            simp only [Bool.and_eq_true] at this
            exact this.1
          have HO : Hid (O = some ((fds S m).getD z ty0, 0)) := Lib.hid (by
            rw [HO0.out]; unfold stepP
            rw [if_neg (by omega), if_neg (by omega), if_neg (by omega), if_neg (by rw [hmn, ← hF]; omega), hmn, hz]; rfl)
          obtain ⟨j0, j1, j2, j3, j4⟩ := hic.kbF (HKB.out.trans HB.out.1)
          rw [show S.getD m [] = fds S m from rfl] at j0 j1 j2 j3 j4
          have HIN := Lib.hid hin
          generalize (fds S m).getD z ty0 = v at j0 j1 j2 j3 j4 HIN HO
          have hzI : (z : Int) < (F : Int) := by omega
          have hzN : z < F := by omega
          have dz2 : decide (F ≤ z) = false := decide_eq_false (by omega)
          subst hz
          rw [hm] at HW
          have HMM := Lib.hid hm
          rw [hm]
          clear hkd hss hl9 hd9 hfl0 hmn hF hfd hin hic hta hzl hm
          go_enter Tryz.func39, Tryz.ntmps39
          go_upto_region 1 with fail
          rw [← HW.out]
          go_wp2_with fail
          refine ret_tyI3 (X := w0.heap.size + 1) rfl rfl rfl rfl (set5_blk HB.out.2.2 (.int .u8 v.k) (.bool v.m) (.int .i64 v.r) (.int .i64 v.s) (.slice ia v.of.length ic)) rfl ?_
          exact stpEnd_some HO.out HIN.out (set5_new HB.out.1 (show w0.heap.size ≤ w0.heap.size + 1 by omega) _ _ _ _ _)
    · have e5 : (t.k != 5) = true := by simpa using hkd
      have hsp : stepP S t k = none := by unfold stepP; rw [if_neg (by omega), if_neg (by omega), if_neg (by omega), if_pos (by omega)]
      have HO : Hid (O = none) := Lib.hid (by rw [HO0.out]; exact hsp)
      clear hon hsp
      go_enter Tryz.func39, Tryz.ntmps39
      go_upto_region 1 with fail
      rw [← HW.out]
      go_wp2_with fail
      refine ret_tyI3 (X := w0.heap.size + 1) rfl rfl rfl rfl (set5_blk HB.out.2.2 (.int .u8 t.k) (.bool t.m) (.int .i64 t.r) (.int .i64 t.s) (.slice ta t.of.length tc)) rfl ?_
      exact stpEnd_none HO.out (set5_new HB.out.1 (show w0.heap.size ≤ w0.heap.size + 1 by omega) _ _ _ _ _)
end Go.Proofs.YtpigppghcghpbaaGreatDoor

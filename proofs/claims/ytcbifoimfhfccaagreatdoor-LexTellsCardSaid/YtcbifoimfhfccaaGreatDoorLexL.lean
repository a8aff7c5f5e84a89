/- loanwordref02: name, number. -/
import Derived.Test.YtcbifoimfhfccaaGreatDoorLexF
namespace Go.Proofs.YtcbifoimfhfccaaGreatDoor
open Go.RowKit

set_option maxRecDepth 100000 in
set_option maxHeartbeats 4000000 in
theorem rname_any (s : ByteArray) (i0 : Nat) (g : Bool) (hi0 : i0 ≤ s.size) (hs : s.size ≤ 65536) (w : World) :
    Calls Tryz.prog 67 #[.string s, .int .i64 i0, .bool g] w fun e w' => e = .returned (.tuple #[.int .i64 ((nameE s i0 g).1 : Nat), .bool (nameE s i0 g).2]) ∧ w' = w := by
  obtain ⟨R, hR⟩ : ∃ R, R = nameE s i0 g := ⟨_, rfl⟩
  rw [← hR]
  have HR := Lib.hid hR
  clear hR
  go_enter Tryz.func67, Tryz.ntmps67
  go_wp2_with fail
  go_loop [8] (fun jv => ∃ j, i0 ≤ j ∧ j ≤ s.size ∧ jv = .int .i64 (j : Nat) ∧ Hid (R = nameF s i0 g (s.size - j) j)) (fun jv => s.size - (intOf jv).toNat)
  case atStart => exact ⟨i0, Nat.le_refl _, hi0, rfl, Lib.hid HR.out⟩
  case round =>
    obtain ⟨j, hj1, hj2, rfl, hr⟩ := hrel
    by_cases hlt : j < s.size
    · have d1 : decide ((j : Int) < (s.size : Int)) = true := decide_eq_true (by omega)
      have hb := byteAt_eq s j hlt
      have RW := Lib.hid (rfRow_any (byteAt s j) w)
      obtain ⟨p, hp⟩ : ∃ p, p = rowB (byteAt s j) := ⟨_, rfl⟩
      rw [← hp] at RW
      have HG := Lib.hid (rfGreat_any (byteAt s j) w)
      have hn : nameF s i0 g (s.size - j) j = if rowB (byteAt s j) = true then (if (greatB (byteAt s j) && !g || decide (j - i0 = 32)) = true then (j, false) else nameF s i0 g (s.size - (j + 1)) (j + 1)) else (j, true) := by
        rw [show s.size - j = (s.size - (j + 1)) + 1 by omega, nameF]
      rw [hn, ← hp] at hr
      obtain ⟨gr, hgr⟩ : ∃ gr, gr = greatB (byteAt s j) := ⟨_, rfl⟩
      rw [← hgr] at HG hr
      have w1 : IntKind.i64.wrap ((j : Int) - (i0 : Int)) = (j : Int) - (i0 : Int) := w64 (by omega) (by omega)
      have q1 : ((j : Int) - (i0 : Int) == 32) = decide (j - i0 = 32) := by rw [Bool.eq_iff_iff]; simp; omega
      generalize decide (j - i0 = 32) = q at q1 hr
      clear hp hgr hn
      cases p
      case false =>
        have HE : Hid (R = (j, true)) := Lib.hid hr.out
        go_wp2_with fail
        refine RW.out.mono ?_
        rintro e w' ⟨rfl, rfl⟩
        go_wp2
        go_ret2
        exact ⟨ret_eq (by rw [HE.out]; rfl), rfl⟩
      case true =>
        go_wp2_with fail
        refine RW.out.mono ?_
        rintro e w' ⟨rfl, rfl⟩
        go_wp2_with fail
        refine HG.out.mono ?_
        rintro e w' ⟨rfl, rfl⟩
        by_cases hst : (gr && !g || q) = true
        · have HE : Hid (R = (j, false)) := Lib.hid (by first | rw [hr.out, if_pos rfl, if_pos hst] | rw [hr.out, if_pos trivial, if_pos hst])
          cases gr <;> cases g <;> cases q <;> first | (exact absurd hst (by decide)) | skip
          all_goals
            go_wp2
            go_ret2
            exact ⟨ret_eq (by rw [HE.out]; rfl), rfl⟩
        · have HN : Hid (R = nameF s i0 g (s.size - (j + 1)) (j + 1)) := Lib.hid (by first | rw [hr.out, if_pos rfl, if_neg hst] | rw [hr.out, if_pos trivial, if_neg hst])
          cases gr <;> cases g <;> cases q <;> first | (exact absurd rfl hst) | skip
          all_goals
            go_wp2
            go_round
            case rel => exact ⟨j + 1, by omega, by omega, by go_num, HN.out⟩
            case measure => simp [intOf]; omega
    · obtain rfl : j = s.size := by omega
      have d1 : decide ((s.size : Int) < (s.size : Int)) = false := decide_eq_false (by omega)
      have HE : Hid (R = (s.size, true)) := Lib.hid (by rw [hr.out, Nat.sub_self, nameF])
      go_wp2
      go_ret2
      exact ⟨ret_eq (by rw [HE.out]; rfl), rfl⟩

set_option maxRecDepth 100000 in
set_option maxHeartbeats 4000000 in
theorem rnumber_any (s : ByteArray) (i0 : Nat) (hi0 : i0 ≤ s.size) (hs : s.size ≤ 65536) (w : World) :
    Calls Tryz.prog 70 #[.string s, .int .i64 i0] w fun e w' => e = .returned (.tuple #[.int .i64 ((numE s i0).1 : Nat), .int .i64 ((numE s i0).2.1 : Nat), .bool (numE s i0).2.2]) ∧ w' = w := by
  obtain ⟨R, hR⟩ : ∃ R, R = numE s i0 := ⟨_, rfl⟩
  rw [← hR]
  have HR := Lib.hid hR
  clear hR
  go_enter Tryz.func70, Tryz.ntmps70
  go_wp2_with fail
  go_loop [8, 7] (fun jv vv => ∃ j v, i0 ≤ j ∧ j ≤ s.size ∧ jv = .int .i64 (j : Nat) ∧ vv = .int .u64 (v : Nat) ∧ v ≤ 9223372036854775807 ∧ Hid (R = numF s i0 (s.size - j) j v)) (fun jv _ => s.size - (intOf jv).toNat)
  case atStart => exact ⟨i0, 0, Nat.le_refl _, hi0, rfl, rfl, by omega, Lib.hid HR.out⟩
  case round =>
    obtain ⟨j, v, hj1, hj2, rfl, rfl, hv, hr⟩ := hrel
    by_cases hlt : j < s.size
    · have d1 : decide ((j : Int) < (s.size : Int)) = true := decide_eq_true (by omega)
      have hb := byteAt_eq s j hlt
      have hb0 := byteAt_eq s i0 (by omega)
      obtain ⟨c, hc⟩ : ∃ c, c = byteAt s j := ⟨_, rfl⟩
      obtain ⟨z, hz⟩ : ∃ z, z = byteAt s i0 := ⟨_, rfl⟩
      have hn : numF s i0 (s.size - j) j v = if rowB (byteAt s j) = true then (if (!digitB (byteAt s j) || decide (j = i0 + 1) && decide (byteAt s i0 = 48) || decide ((9223372036854775807 - (byteAt s j - 48)) / 10 < v)) = true then (j, 0, false) else numF s i0 (s.size - (j + 1)) (j + 1) (10 * v + (byteAt s j - 48))) else (j, v, true) := by
        rw [show s.size - j = (s.size - (j + 1)) + 1 by omega, numF]
      rw [hn, ← hc, ← hz] at hr
      rw [← hc] at hb
      rw [← hz] at hb0
      have RW := Lib.hid (rfRow_any c w)
      have HD := Lib.hid (rfDigit_any c w)
      obtain ⟨p, hp⟩ : ∃ p, p = rowB c := ⟨_, rfl⟩
      obtain ⟨dg, hdg⟩ : ∃ dg, dg = digitB c := ⟨_, rfl⟩
      rw [← hp] at RW hr
      rw [← hdg] at HD hr
      have hc256 : c < 256 := by rw [hc]; exact UInt8.toNat_lt _
      have wv : IntKind.i64.wrap (v : Int) = (v : Int) := w64 (by omega) (by omega)
      clear hp hn hc hz
      cases p
      case false =>
        have HE : Hid (R = (j, v, true)) := Lib.hid hr.out
        clear hdg
        go_wp2_with fail
        refine RW.out.mono ?_
        rintro e w' ⟨rfl, rfl⟩
        go_wp2
        (try simp only [Exit.inBlock, Exit.then])
        refine bodyPost_ret (results_tmp3 rfl _ _ _) rfl ?_
        exact ⟨ret_eq (by rw [HE.out]; rfl), rfl⟩
      case true =>
        have HN0 : Hid (R = if (!dg || decide (j = i0 + 1) && decide (z = 48) || decide ((9223372036854775807 - (c - 48)) / 10 < v)) = true then (j, 0, false) else numF s i0 (s.size - (j + 1)) (j + 1) (10 * v + (c - 48))) := Lib.hid (by first | rw [hr.out, if_pos rfl] | rw [hr.out, if_pos trivial])
        obtain ⟨y8, hy8⟩ : ∃ y8 : Nat, IntKind.u8.wrap ((c : Int) - 48) = (y8 : Int) ∧ y8 < 256 := by
          refine ⟨(((c : Int) - 48) % 256).toNat, ?_, by omega⟩
          show ((c : Int) - 48) % 256 = _
          omega
        have w3 : IntKind.u64.wrap (y8 : Int) = (y8 : Int) := wrap_u64 (by omega) (by omega)
        have w2 := hy8.1
        have hy256 := hy8.2
        clear hr
        go_wp2_with fail
        refine RW.out.mono ?_
        rintro e w' ⟨rfl, rfl⟩
        go_wp2_with fail
        refine HD.out.mono ?_
        rintro e w' ⟨rfl, rfl⟩
        cases dg
        case false =>
          have HE : Hid (R = (j, 0, false)) := Lib.hid (by rw [HN0.out]; rfl)
          clear hdg
          go_wp2
          (try simp only [Exit.inBlock, Exit.then])
          refine bodyPost_ret (results_tmp3 rfl _ _ _) rfl ?_
          exact ⟨ret_eq (by rw [HE.out]; rfl), rfl⟩
        case true =>
          have hcd : 48 ≤ c ∧ c ≤ 57 := by
            unfold digitB at hdg
            have := hdg.symm
            simp only [Bool.and_eq_true, decide_eq_true_eq] at this
            exact this
          obtain ⟨y, hy⟩ : ∃ y, y = c - 48 := ⟨_, rfl⟩
          have hy9 : y ≤ 9 := by omega
          have hyy : y8 = y := by
            have h1 : IntKind.u8.wrap ((c : Int) - 48) = (c : Int) - 48 := wrap_u8 (by omega) (by omega)
            rw [h1] at w2
            omega
          subst hyy
          have w4 : IntKind.u64.wrap (9223372036854775807 - (y8 : Int)) = 9223372036854775807 - (y8 : Int) := wrap_u64 (by omega) (by omega)
          have w5 : IntKind.i64.wrap ((i0 : Int) + 1) = (i0 : Int) + 1 := w64 (by omega) (by omega)
          rw [← hy] at HN0
          clear hdg hy
          obtain ⟨y, hyz⟩ : ∃ y, y = y8 := ⟨_, rfl⟩
          subst hyz
          obtain ⟨K, hK⟩ : ∃ K, K = (9223372036854775807 - y) / 10 := ⟨_, rfl⟩
          have w6 : (9223372036854775807 - (y : Int)) / 10 = (K : Int) := by omega
          have w6' : Int.tdiv (9223372036854775807 - (y : Int)) 10 = (K : Int) := by rw [Int.tdiv_eq_ediv_of_nonneg (by omega)]; omega
          have w6w : IntKind.u64.wrap (K : Int) = (K : Int) := wrap_u64 (by omega) (by omega)
          have hKb : 10 * K + y ≤ 9223372036854775807 := by omega
          rw [← hK] at HN0
          clear hK
          by_cases h1 : j = i0 + 1
          · have t1 : ((j : Int) == (i0 : Int) + 1) = true := by simp; omega
            by_cases h2 : z = 48
            · have HE : Hid (R = (j, 0, false)) := Lib.hid (by rw [HN0.out, decide_eq_true h1, decide_eq_true h2]; rfl)
              have t2 : ((z : Int) == 48) = true := by simp; omega
              clear h1
              go_wp2
              (try simp only [Exit.inBlock, Exit.then])
              refine bodyPost_ret (results_tmp3 rfl _ _ _) rfl ?_
              exact ⟨ret_eq (by rw [HE.out]; rfl), rfl⟩
            · have H12 : (decide (j = i0 + 1) && decide (z = 48)) = false := by rw [decide_eq_false h2]; simp
              have t2 : ((z : Int) == 48) = false := by simp; omega
              rw [H12] at HN0
              clear h1
              by_cases h3 : K < v
              · have HE : Hid (R = (j, 0, false)) := Lib.hid (by rw [HN0.out, decide_eq_true h3]; simp)
                have t3 : decide ((K : Int) < (v : Int)) = true := decide_eq_true (by omega)
                have t3n : decide (K < v) = true := decide_eq_true h3
                go_wp2
                (try simp only [Exit.inBlock, Exit.then])
                refine bodyPost_ret (results_tmp3 rfl _ _ _) rfl ?_
                exact ⟨ret_eq (by rw [HE.out]; rfl), rfl⟩
              · have HN : Hid (R = numF s i0 (s.size - (j + 1)) (j + 1) (10 * v + y)) := Lib.hid (by rw [HN0.out, decide_eq_false h3, if_neg (by simp [H12])])
                have t3 : decide ((K : Int) < (v : Int)) = false := decide_eq_false (by omega)
                have t3n : decide (K < v) = false := decide_eq_false h3
                have w7 : IntKind.u64.wrap (10 * (v : Int)) = 10 * (v : Int) := wrap_u64 (by omega) (by omega)
                have w8 : IntKind.u64.wrap (10 * (v : Int) + (y : Int)) = ((10 * v + y : Nat) : Int) := by rw [show ((10 * v + y : Nat) : Int) = 10 * (v : Int) + (y : Int) by omega]; exact wrap_u64 (by omega) (by omega)
                have hvn : 10 * v + y ≤ 9223372036854775807 := by omega
                go_wp2
                go_round
                case rel => exact ⟨j + 1, 10 * v + y, by omega, by omega, by go_num, by first | rfl | (push_cast; rfl), hvn, HN.out⟩
                case measure => simp [intOf]; omega
          · have H12 : (decide (j = i0 + 1) && decide (z = 48)) = false := by rw [decide_eq_false h1]; rfl
            have t1 : ((j : Int) == (i0 : Int) + 1) = false := by simp; omega
            rw [H12] at HN0
            by_cases h3 : K < v
            · have HE : Hid (R = (j, 0, false)) := Lib.hid (by rw [HN0.out, decide_eq_true h3]; simp)
              have t3 : decide ((K : Int) < (v : Int)) = true := decide_eq_true (by omega)
              have t3n : decide (K < v) = true := decide_eq_true h3
              go_wp2
              (try simp only [Exit.inBlock, Exit.then])
              refine bodyPost_ret (results_tmp3 rfl _ _ _) rfl ?_
              exact ⟨ret_eq (by rw [HE.out]; rfl), rfl⟩
            · have HN : Hid (R = numF s i0 (s.size - (j + 1)) (j + 1) (10 * v + y)) := Lib.hid (by rw [HN0.out, decide_eq_false h3, if_neg (by simp [H12])])
              have t3 : decide ((K : Int) < (v : Int)) = false := decide_eq_false (by omega)
              have t3n : decide (K < v) = false := decide_eq_false h3
              have w7 : IntKind.u64.wrap (10 * (v : Int)) = 10 * (v : Int) := wrap_u64 (by omega) (by omega)
              have w8 : IntKind.u64.wrap (10 * (v : Int) + (y : Int)) = ((10 * v + y : Nat) : Int) := by rw [show ((10 * v + y : Nat) : Int) = 10 * (v : Int) + (y : Int) by omega]; exact wrap_u64 (by omega) (by omega)
              have hvn : 10 * v + y ≤ 9223372036854775807 := by omega
              go_wp2
              go_round
              case rel => exact ⟨j + 1, 10 * v + y, by omega, by omega, by go_num, by first | rfl | (push_cast; rfl), hvn, HN.out⟩
              case measure => simp [intOf]; omega
    · obtain rfl : j = s.size := by omega
      have d1 : decide ((s.size : Int) < (s.size : Int)) = false := decide_eq_false (by omega)
      have wv : IntKind.i64.wrap (v : Int) = (v : Int) := w64 (by omega) (by omega)
      have HE : Hid (R = (s.size, v, true)) := Lib.hid (by rw [hr.out, Nat.sub_self, numF])
      go_wp2
      (try simp only [Exit.inBlock, Exit.then])
      refine bodyPost_ret (results_tmp3 rfl _ _ _) rfl ?_
      exact ⟨ret_eq (by rw [HE.out]; rfl), rfl⟩
end Go.Proofs.YtcbifoimfhfccaaGreatDoor

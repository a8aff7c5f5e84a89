/- The lexer's 'number'. -/
import Derived.Test.YtcbifoimfhfccaaGreatDoorLexE
namespace Go.Proofs.YtcbifoimfhfccaaGreatDoor
open Go.RowKit

theorem wrap_u8 {x : Int} (h1 : 0 ≤ x) (h2 : x < 256) : IntKind.u8.wrap x = x := by
  show x % 256 = x
  omega
theorem wrap_u64 {x : Int} (h1 : 0 ≤ x) (h2 : x < 18446744073709551616) : IntKind.u64.wrap x = x := by
  show x % 18446744073709551616 = x
  exact Int.emod_eq_of_lt h1 h2
set_option maxRecDepth 100000 in
set_option maxHeartbeats 4000000 in
theorem number_any (b : Nat) (s : ByteArray) (i0 : Nat) (hi0 : i0 ≤ s.size) (hs : s.size ≤ 65536) (w : World) (h : LX w b s i0 false) :
    Calls Tryz.prog 55 #[.pointer (some ⟨b, 0, none⟩)] w fun e w' => e = .returned (.int .i64 ((numE s i0).2.1 : Nat)) ∧ LX w' b s (numE s i0).1 (!(numE s i0).2.2) ∧ KB (SB b) w w' := by
  obtain ⟨w0, rfl⟩ : ∃ w0, w0 = w := ⟨_, rfl⟩
  have H := Lib.hid h
  have c1 : w0.cell? ⟨b, 1, none⟩ = some (.int .i64 i0) := blk_cell h 1
  clear h
  obtain ⟨R, hR⟩ : ∃ R, R = numE s i0 := ⟨_, rfl⟩
  rw [← hR]
  have HR := Lib.hid hR
  clear hR
  go_enter Tryz.func55, Tryz.ntmps55
  go_wp2_with fail
  clear c1
  go_loopw [3] (fun vv wr => ∃ j v : Nat, i0 ≤ j ∧ j ≤ s.size ∧ vv = .int .u64 v ∧ v ≤ 9223372036854775807 ∧ LX wr b s j false ∧ Hid (R = numF s i0 (s.size - j) j v) ∧ KB (SB b) w0 wr) (fun _ wr => s.size - lxAt wr b)
  case atStart => exact ⟨i0, 0, Nat.le_refl _, hi0, rfl, by omega, H.out, Lib.hid HR.out, KB.refl _ _⟩
  case round =>
    obtain ⟨j, v, hj1, hj2, rfl, hv, hx, hr, hkb⟩ := hrel
    have c0 : wr.cell? ⟨b, 0, none⟩ = some (.string s) := blk_cell hx 0
    have c1 : wr.cell? ⟨b, 1, none⟩ = some (.int .i64 j) := blk_cell hx 1
    have c2 : wr.cell? ⟨b, 2, none⟩ = some (.bool false) := blk_cell hx 2
    have f1 : wr.frozen? ⟨b, 1, none⟩ = false := blk_frozen hx 1
    have f2 : wr.frozen? ⟨b, 2, none⟩ = false := blk_frozen hx 2
    have HX := Lib.hid (And.intro hx hkb)
    have IS := Lib.hid (is_lxRow b s j false (by omega) wr hx)
    obtain ⟨p, hp⟩ : ∃ p, p = isB rowB s j := ⟨_, rfl⟩
    rw [← hp] at IS
    clear hx hkb
    cases p
    case false =>
      have HE : Hid (R = (j, v, true)) := Lib.hid (by
        rw [hr.out]
        unfold isB at hp
        by_cases hlt : j < s.size
        · rw [decide_eq_true hlt] at hp
          rw [show s.size - j = (s.size - j - 1) + 1 by omega, numF, if_neg (by rw [← (show false = rowB (byteAt s j) from hp)]; decide)]
        · rw [show s.size - j = 0 by omega, numF])
      have w1 : IntKind.i64.wrap (v : Int) = (v : Int) := w64 (by omega) (by omega)
      clear hp
      go_wp2_with fail
      refine IS.out.mono ?_
      rintro e w' ⟨rfl, m, rfl⟩
      go_wp2
      go_ret
      exact ⟨ret_eq (by rw [HE.out]; rfl), by rw [HE.out]; exact HX.out.1, HX.out.2.drewN _⟩
    case true =>
      have hlt : j < s.size := by
        unfold isB at hp
        by_cases hlt : j < s.size
        · exact hlt
        · rw [decide_eq_false hlt] at hp; cases hp
      have hrow : rowB (byteAt s j) = true := by
        unfold isB at hp
        rw [decide_eq_true hlt] at hp
        exact hp.symm
      have hb := byteAt_eq s j hlt
      have hb0 := byteAt_eq s i0 (by omega)
      have HN0 : Hid (R = if (!digitB (byteAt s j) || decide (j = i0 + 1) && decide (byteAt s i0 = 48) || decide ((9223372036854775807 - (byteAt s j - 48)) / 10 < v)) = true then (j, 0, false) else numF s i0 (s.size - (j + 1)) (j + 1) (10 * v + (byteAt s j - 48))) := Lib.hid (by
        rw [hr.out, show s.size - j = (s.size - (j + 1)) + 1 by omega, numF, if_pos hrow])
      have HD := Lib.hid (lxDigit_any (byteAt s j))
      obtain ⟨c, hc⟩ : ∃ c, c = byteAt s j := ⟨_, rfl⟩
      obtain ⟨z, hz⟩ : ∃ z, z = byteAt s i0 := ⟨_, rfl⟩
      rw [← hc] at hb HN0 HD
      rw [← hz] at hb0 HN0
      obtain ⟨dg, hdg⟩ : ∃ dg, dg = digitB c := ⟨_, rfl⟩
      rw [← hdg] at HN0 HD
      clear hp hrow hr hc hz
      go_wp2_with fail
      refine IS.out.mono ?_
      rintro e w' ⟨rfl, m, rfl⟩
      go_wp2_with fail
      refine wp_region_rv 10 GQ (kindV []) (by kernel_rfl) (by kernel_rfl) GQ.trans GQ.refl (GQ.start _) (kindV_mono _) ?_
      simp only [List.take_succ_cons, List.take_zero, List.drop_succ_cons, List.drop_zero]
      iterate 10 (refine rv_det (by kernel_rfl) rfl (by intro w hG hH; obtain ⟨n, rfl⟩ := hG; go_simp; first | done | with_reducible rfl) ?_; simp only [Act.put, List.setIfInBounds_toArray, List.set_cons_zero, List.set_cons_succ])
      refine rv_nil (fun w hG hH => ?_)
      obtain ⟨n, rfl⟩ := hG
      clear hH
      go_wp2_with fail
      refine (HD.out _).mono ?_
      rintro e w' ⟨rfl, rfl⟩
      cases dg
      case false =>
        have HE : Hid (R = (j, 0, false)) := Lib.hid (by rw [HN0.out]; rfl)
        clear hdg
        go_wp2
        go_ret
        exact ⟨ret_eq (by rw [HE.out]; rfl), by rw [HE.out]; exact HX.out.1.stuck true, (HX.out.2.drewN _).setCell (p := ⟨b, 2, none⟩) (fun _ => rfl) (.bool true)⟩
      case true =>
        have hcd : 48 ≤ c ∧ c ≤ 57 := by
          unfold digitB at hdg
          have := hdg.symm
          simp only [Bool.and_eq_true, decide_eq_true_eq] at this
          exact this
        obtain ⟨y, hy⟩ : ∃ y, y = c - 48 := ⟨_, rfl⟩
        have hy9 : y ≤ 9 := by omega
        have hcy : (c : Int) - 48 = (y : Int) := by omega
        have w2 : IntKind.u8.wrap ((c : Int) - 48) = (y : Int) := by rw [hcy]; exact wrap_u8 (by omega) (by omega)
        have w2' : IntKind.u8.wrap (y : Int) = (y : Int) := wrap_u8 (by omega) (by omega)
        have w3 : IntKind.u64.wrap (y : Int) = (y : Int) := wrap_u64 (by omega) (by omega)
        have w4 : IntKind.u64.wrap (9223372036854775807 - (y : Int)) = 9223372036854775807 - (y : Int) := wrap_u64 (by omega) (by omega)
        have w5 : IntKind.i64.wrap ((i0 : Int) + 1) = (i0 : Int) + 1 := w64 (by omega) (by omega)
        rw [← hy] at HN0
        clear hdg hcy hy
        obtain ⟨K, hK⟩ : ∃ K, K = (9223372036854775807 - y) / 10 := ⟨_, rfl⟩
        have w6 : (9223372036854775807 - (y : Int)) / 10 = (K : Int) := by omega
        have w6' : Int.tdiv (9223372036854775807 - (y : Int)) 10 = (K : Int) := by rw [Int.tdiv_eq_ediv_of_nonneg (by omega)]; omega
        have w6w : IntKind.u64.wrap (K : Int) = (K : Int) := wrap_u64 (by omega) (by omega)
        have hKb : 10 * K + y ≤ 9223372036854775807 := by omega
        rw [← hK] at HN0
        clear hK
        by_cases h1 : j = i0 + 1
        · have t1 : ((j : Int) == (i0 : Int) + 1) = true := by simp; omega
          by_cases h2 : z = 48
          · have HE : Hid (R = (j, 0, false)) := Lib.hid (by rw [HN0.out, decide_eq_true h1, decide_eq_true h2]; rfl)
            have t2 : ((z : Int) == 48) = true := by simp; omega
            clear h1
            go_wp2
            go_ret
            exact ⟨ret_eq (by rw [HE.out]; rfl), by rw [HE.out]; exact HX.out.1.stuck true, (HX.out.2.drewN _).setCell (p := ⟨b, 2, none⟩) (fun _ => rfl) (.bool true)⟩
          · have H12 : (decide (j = i0 + 1) && decide (z = 48)) = false := by rw [decide_eq_false h2]; simp
            have t2 : ((z : Int) == 48) = false := by simp; omega
            rw [H12] at HN0
            clear h1
            by_cases h3 : K < v
            · have HE : Hid (R = (j, 0, false)) := Lib.hid (by rw [HN0.out, decide_eq_true h3]; simp)
              have t3 : decide ((K : Int) < (v : Int)) = true := decide_eq_true (by omega)
              have t3n : decide (K < v) = true := decide_eq_true h3
              go_wp2
              go_ret
              exact ⟨ret_eq (by rw [HE.out]; rfl), by rw [HE.out]; exact HX.out.1.stuck true, (HX.out.2.drewN _).setCell (p := ⟨b, 2, none⟩) (fun _ => rfl) (.bool true)⟩
            · have HN : Hid (R = numF s i0 (s.size - (j + 1)) (j + 1) (10 * v + y)) := Lib.hid (by rw [HN0.out, decide_eq_false h3, if_neg (by simp [H12])])
              have t3 : decide ((K : Int) < (v : Int)) = false := decide_eq_false (by omega)
              have t3n : decide (K < v) = false := decide_eq_false h3
              have w7 : IntKind.u64.wrap (10 * (v : Int)) = 10 * (v : Int) := wrap_u64 (by omega) (by omega)
              have w8 : IntKind.u64.wrap (10 * (v : Int) + (y : Int)) = ((10 * v + y : Nat) : Int) := by rw [show ((10 * v + y : Nat) : Int) = 10 * (v : Int) + (y : Int) by omega]; exact wrap_u64 (by omega) (by omega)
              have hvn : 10 * v + y ≤ 9223372036854775807 := by omega
              go_wp2
              go_roundw
              case rel => exact ⟨j + 1, 10 * v + y, by omega, by omega, by first | rfl | (push_cast; rfl), hvn, by have := HX.out.1.go (j + 1); push_cast at this; exact this, HN.out, by have := (HX.out.2.drewN (m + n)).setCell (p := ⟨b, 1, none⟩) (fun _ => rfl) (.int .i64 ((j + 1 : Nat) : Int)); push_cast at this; exact this⟩
              case measure =>
                have h1 := HX.out.1.at_
                have h2 := (HX.out.1.go (j + 1)).at_
                push_cast at h2
                have h3 : ∀ n, lxAt ((wr.drewN n).setCell ⟨b, 1, none⟩ (.int .i64 ((j : Int) + 1))) b = j + 1 := fun n => h2
                rw [h1, h3]; omega
        · have H12 : (decide (j = i0 + 1) && decide (z = 48)) = false := by rw [decide_eq_false h1]; rfl
          have t1 : ((j : Int) == (i0 : Int) + 1) = false := by simp; omega
          rw [H12] at HN0
          by_cases h3 : K < v
          · have HE : Hid (R = (j, 0, false)) := Lib.hid (by rw [HN0.out, decide_eq_true h3]; simp)
            have t3 : decide ((K : Int) < (v : Int)) = true := decide_eq_true (by omega)
            have t3n : decide (K < v) = true := decide_eq_true h3
            go_wp2
            go_ret
            exact ⟨ret_eq (by rw [HE.out]; rfl), by rw [HE.out]; exact HX.out.1.stuck true, (HX.out.2.drewN _).setCell (p := ⟨b, 2, none⟩) (fun _ => rfl) (.bool true)⟩
          · have HN : Hid (R = numF s i0 (s.size - (j + 1)) (j + 1) (10 * v + y)) := Lib.hid (by rw [HN0.out, decide_eq_false h3, if_neg (by simp [H12])])
            have t3 : decide ((K : Int) < (v : Int)) = false := decide_eq_false (by omega)
            have t3n : decide (K < v) = false := decide_eq_false h3
            have w7 : IntKind.u64.wrap (10 * (v : Int)) = 10 * (v : Int) := wrap_u64 (by omega) (by omega)
            have w8 : IntKind.u64.wrap (10 * (v : Int) + (y : Int)) = ((10 * v + y : Nat) : Int) := by rw [show ((10 * v + y : Nat) : Int) = 10 * (v : Int) + (y : Int) by omega]; exact wrap_u64 (by omega) (by omega)
            have hvn : 10 * v + y ≤ 9223372036854775807 := by omega
            go_wp2
            go_roundw
            case rel => exact ⟨j + 1, 10 * v + y, by omega, by omega, by first | rfl | (push_cast; rfl), hvn, by have := HX.out.1.go (j + 1); push_cast at this; exact this, HN.out, by have := (HX.out.2.drewN (m + n)).setCell (p := ⟨b, 1, none⟩) (fun _ => rfl) (.int .i64 ((j + 1 : Nat) : Int)); push_cast at this; exact this⟩
            case measure =>
              have h1 := HX.out.1.at_
              have h2 := (HX.out.1.go (j + 1)).at_
              push_cast at h2
              have h3 : ∀ n, lxAt ((wr.drewN n).setCell ⟨b, 1, none⟩ (.int .i64 ((j : Int) + 1))) b = j + 1 := fun n => h2
              rw [h1, h3]; omega
end Go.Proofs.YtcbifoimfhfccaaGreatDoor

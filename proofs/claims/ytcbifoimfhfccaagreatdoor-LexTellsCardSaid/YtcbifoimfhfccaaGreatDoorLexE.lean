/- The lexer's 'name'. -/
import Derived.Test.YtcbifoimfhfccaaGreatDoorLexD
namespace Go.Proofs.YtcbifoimfhfccaaGreatDoor
open Go.RowKit

set_option maxRecDepth 100000 in
set_option maxHeartbeats 4000000 in
theorem name_any (b : Nat) (s : ByteArray) (i0 : Nat) (g : Bool) (hi0 : i0 ≤ s.size) (hs : s.size ≤ 65536) (w : World) (h : LX w b s i0 false) :
    Calls Tryz.prog 50 #[.pointer (some ⟨b, 0, none⟩), .bool g] w fun e w' => e = .returned (.string (if (nameE s i0 g).2 = true then s.extract i0 (nameE s i0 g).1 else ⟨#[]⟩)) ∧ LX w' b s (nameE s i0 g).1 (!(nameE s i0 g).2) ∧ KB (SB b) w w' := by
  obtain ⟨w0, rfl⟩ : ∃ w0, w0 = w := ⟨_, rfl⟩
  have H := Lib.hid h
  have c1 : w0.cell? ⟨b, 1, none⟩ = some (.int .i64 i0) := blk_cell h 1
  clear h
  obtain ⟨R, hR⟩ : ∃ R, R = nameE s i0 g := ⟨_, rfl⟩
  rw [← hR]
  have HR := Lib.hid hR
  obtain ⟨V, hV⟩ : ∃ V, V = (if R.2 = true then s.extract i0 R.1 else (⟨#[]⟩ : ByteArray)) := ⟨_, rfl⟩
  rw [← hV]
  have HV := Lib.hid hV
  clear hR hV
  go_enter Tryz.func50, Tryz.ntmps50
  go_wp2_with fail
  clear c1
  go_loopw [] (fun wr => ∃ j, i0 ≤ j ∧ j ≤ s.size ∧ LX wr b s j false ∧ Hid (R = nameF s i0 g (s.size - j) j) ∧ KB (SB b) w0 wr) (fun wr => s.size - lxAt wr b)
  case atStart => exact ⟨i0, Nat.le_refl _, hi0, H.out, Lib.hid HR.out, KB.refl _ _⟩
  case round =>
    obtain ⟨j, hj1, hj2, hx, hr, hkb⟩ := hrel
    have c0 : wr.cell? ⟨b, 0, none⟩ = some (.string s) := blk_cell hx 0
    have c1 : wr.cell? ⟨b, 1, none⟩ = some (.int .i64 j) := blk_cell hx 1
    have c2 : wr.cell? ⟨b, 2, none⟩ = some (.bool false) := blk_cell hx 2
    have f1 : wr.frozen? ⟨b, 1, none⟩ = false := blk_frozen hx 1
    have f2 : wr.frozen? ⟨b, 2, none⟩ = false := blk_frozen hx 2
    have HX := Lib.hid (And.intro hx hkb)
    have IS := Lib.hid (is_lxRow b s j false (by omega) wr hx)
    obtain ⟨p, hp⟩ : ∃ p, p = isB rowB s j := ⟨_, rfl⟩
    rw [← hp] at IS
    clear hx hkb
    cases p
    case false =>
      have HE : Hid (R = (j, true)) := Lib.hid (by
        rw [hr.out]
        unfold isB at hp
        by_cases hlt : j < s.size
        · rw [decide_eq_true hlt] at hp
          rw [show s.size - j = (s.size - j - 1) + 1 by omega, nameF, if_neg (by rw [← (show false = rowB (byteAt s j) from hp)]; decide)]
        · rw [show s.size - j = 0 by omega, nameF])
      clear hp
      go_wp2_with fail
      refine IS.out.mono ?_
      rintro e w' ⟨rfl, m, rfl⟩
      go_wp2_with fail
      refine wp_region_rv 11 GQ (kindV []) (by kernel_rfl) (by kernel_rfl) GQ.trans GQ.refl (GQ.start _) (kindV_mono _) ?_
      simp only [List.take_succ_cons, List.take_zero, List.drop_succ_cons, List.drop_zero]
      iterate 11 (refine rv_det (by kernel_rfl) rfl (by intro w hG hH; obtain ⟨n, rfl⟩ := hG; go_simp; first | done | with_reducible rfl) ?_; simp only [Act.put, List.setIfInBounds_toArray, List.set_cons_zero, List.set_cons_succ])
      refine rv_nil (fun w hG hH => ?_)
      obtain ⟨n, rfl⟩ := hG
      clear hH
      go_wp2
      (try simp only [Exit.inBlock, Exit.then])
      refine bodyPost_ret (results_tmp rfl _ _ _) rfl ?_
      exact ⟨ret_eq (by rw [HV.out, HE.out]; rfl), by rw [HE.out]; exact HX.out.1, by first | exact HX.out.2.drewN _ | exact (HX.out.2.drewN _).drewN _⟩
    case true =>
      have hlt : j < s.size := by
        unfold isB at hp
        by_cases hlt : j < s.size
        · exact hlt
        · rw [decide_eq_false hlt] at hp; cases hp
      have hrow : rowB (byteAt s j) = true := by
        unfold isB at hp
        rw [decide_eq_true hlt] at hp
        exact hp.symm
      have hb := byteAt_eq s j hlt
      have HN0 : Hid (R = if (greatB (byteAt s j) && !g || decide (j - i0 = 32)) = true then (j, false) else nameF s i0 g (s.size - (j + 1)) (j + 1)) := Lib.hid (by
        rw [hr.out, show s.size - j = (s.size - (j + 1)) + 1 by omega, nameF, if_pos hrow])
      have HG := Lib.hid (lxGreat_any (byteAt s j))
      generalize greatB (byteAt s j) = gr at HG HN0
      have w1 : IntKind.i64.wrap ((j : Int) - (i0 : Int)) = (j : Int) - (i0 : Int) := w64 (by omega) (by omega)
      have q1 : ((j : Int) - (i0 : Int) == 32) = decide (j - i0 = 32) := by rw [Bool.eq_iff_iff]; simp; omega
      clear hp hrow hr
      go_wp2_with fail
      refine IS.out.mono ?_
      rintro e w' ⟨rfl, m, rfl⟩
      generalize decide (j - i0 = 32) = q at q1 HN0
      by_cases hst : (gr && !g) = true
      · obtain ⟨rfl, rfl⟩ : gr = true ∧ g = false := by cases gr <;> cases g <;> simp at hst <;> exact ⟨rfl, rfl⟩
        have HE : Hid (R = (j, false)) := Lib.hid HN0.out
        clear hst
        go_wp2_with fail
        refine wp_region_rv 24 GQ (kindV [(9, fun v => v = .bool true)]) (by kernel_rfl) (by kernel_rfl) GQ.trans GQ.refl (GQ.start _) (kindV_mono _) ?_
        simp only [List.take_succ_cons, List.take_zero, List.drop_succ_cons, List.drop_zero]
        iterate 9 (refine rv_det (by kernel_rfl) rfl (by intro w hG hH; obtain ⟨n, rfl⟩ := hG; go_simp; first | done | with_reducible rfl) ?_; simp only [Act.put, List.setIfInBounds_toArray, List.set_cons_zero, List.set_cons_succ])
        refine rv_rel (by kernel_rfl) rfl ⟨_, rfl⟩ (by
          intro w hG hH; obtain ⟨n, rfl⟩ := hG
          refine opVal_call (by go_simp; first | done | exact ⟨⟨rfl, rfl⟩, rfl⟩) ?_
          refine (HG.out _).mono ?_
          rintro e w' ⟨rfl, hq⟩
          exact ⟨_, rfl, rfl, by (first | (obtain ⟨nq, rfl⟩ := hq) | subst hq); (try simp only [drew_eq1, drewN_drewN]); first | exact ⟨0, rfl⟩ | exact ⟨_, rfl⟩ | exact gq_le (by omega), trivial⟩) ?_
        rintro v rfl
        simp only [Act.put, List.setIfInBounds_toArray, List.set_cons_zero, List.set_cons_succ]
        iterate 5 (refine rv_det (by kernel_rfl) rfl (by intro w hG hH; obtain ⟨n, rfl⟩ := hG; go_simp; first | done | with_reducible rfl) ?_; simp only [Act.put, List.setIfInBounds_toArray, List.set_cons_zero, List.set_cons_succ])
        iterate 8 (refine rv_skip (by kernel_rfl) ?_; simp only [Act.put, List.setIfInBounds_toArray, List.set_cons_zero, List.set_cons_succ])
        refine rv_det (by kernel_rfl) rfl (by intro w hG hH; obtain ⟨n, rfl⟩ := hG; go_simp; first | done | with_reducible rfl) ?_
        simp only [Act.put, List.setIfInBounds_toArray, List.set_cons_zero, List.set_cons_succ]
        refine rv_nil (fun w hG hH => ?_)
        obtain ⟨n, rfl⟩ := hG
        clear hH
        go_wp2
        (try simp only [Exit.inBlock, Exit.then])
        refine bodyPost_ret (results_tmp rfl _ _ _) rfl ?_
        exact ⟨ret_eq (by rw [HV.out, HE.out]; rfl), by rw [HE.out]; exact HX.out.1.stuck true, (HX.out.2.drewN _).setCell (p := ⟨b, 2, none⟩) (fun _ => rfl) (.bool true)⟩
      · rw [show (gr && !g || q) = q by cases gr <;> cases g <;> first | rfl | exact absurd rfl hst] at HN0
        cases q
        case true =>
          have HE : Hid (R = (j, false)) := Lib.hid HN0.out
          cases gr
          case true =>
            obtain rfl : g = true := by cases g <;> simp at hst <;> rfl
            clear hst
            go_wp2_with fail
            refine wp_region_rv 24 GQ (kindV [(9, fun v => v = .bool true)]) (by kernel_rfl) (by kernel_rfl) GQ.trans GQ.refl (GQ.start _) (kindV_mono _) ?_
            simp only [List.take_succ_cons, List.take_zero, List.drop_succ_cons, List.drop_zero]
            iterate 9 (refine rv_det (by kernel_rfl) rfl (by intro w hG hH; obtain ⟨n, rfl⟩ := hG; go_simp; first | done | with_reducible rfl) ?_; simp only [Act.put, List.setIfInBounds_toArray, List.set_cons_zero, List.set_cons_succ])
            refine rv_rel (by kernel_rfl) rfl ⟨_, rfl⟩ (by
              intro w hG hH; obtain ⟨n, rfl⟩ := hG
              refine opVal_call (by go_simp; first | done | exact ⟨⟨rfl, rfl⟩, rfl⟩) ?_
              refine (HG.out _).mono ?_
              rintro e w' ⟨rfl, hq⟩
              exact ⟨_, rfl, rfl, by (first | (obtain ⟨nq, rfl⟩ := hq) | subst hq); (try simp only [drew_eq1, drewN_drewN]); first | exact ⟨0, rfl⟩ | exact ⟨_, rfl⟩ | exact gq_le (by omega), trivial⟩) ?_
            rintro v rfl
            simp only [Act.put, List.setIfInBounds_toArray, List.set_cons_zero, List.set_cons_succ]
            iterate 14 (refine rv_det (by kernel_rfl) rfl (by intro w hG hH; obtain ⟨n, rfl⟩ := hG; go_simp; first | done | with_reducible rfl) ?_; simp only [Act.put, List.setIfInBounds_toArray, List.set_cons_zero, List.set_cons_succ])
            refine rv_nil (fun w hG hH => ?_)
            obtain ⟨n, rfl⟩ := hG
            clear hH
            go_wp2
            (try simp only [Exit.inBlock, Exit.then])
            refine bodyPost_ret (results_tmp rfl _ _ _) rfl ?_
            exact ⟨ret_eq (by rw [HV.out, HE.out]; rfl), by rw [HE.out]; exact HX.out.1.stuck true, (HX.out.2.drewN _).setCell (p := ⟨b, 2, none⟩) (fun _ => rfl) (.bool true)⟩
          case false =>
            clear hst
            go_wp2_with fail
            refine wp_region_rv 24 GQ (kindV [(9, fun v => v = .bool false)]) (by kernel_rfl) (by kernel_rfl) GQ.trans GQ.refl (GQ.start _) (kindV_mono _) ?_
            simp only [List.take_succ_cons, List.take_zero, List.drop_succ_cons, List.drop_zero]
            iterate 9 (refine rv_det (by kernel_rfl) rfl (by intro w hG hH; obtain ⟨n, rfl⟩ := hG; go_simp; first | done | with_reducible rfl) ?_; simp only [Act.put, List.setIfInBounds_toArray, List.set_cons_zero, List.set_cons_succ])
            refine rv_rel (by kernel_rfl) rfl ⟨_, rfl⟩ (by
              intro w hG hH; obtain ⟨n, rfl⟩ := hG
              refine opVal_call (by go_simp; first | done | exact ⟨⟨rfl, rfl⟩, rfl⟩) ?_
              refine (HG.out _).mono ?_
              rintro e w' ⟨rfl, hq⟩
              exact ⟨_, rfl, rfl, by (first | (obtain ⟨nq, rfl⟩ := hq) | subst hq); (try simp only [drew_eq1, drewN_drewN]); first | exact ⟨0, rfl⟩ | exact ⟨_, rfl⟩ | exact gq_le (by omega), trivial⟩) ?_
            rintro v rfl
            simp only [Act.put, List.setIfInBounds_toArray, List.set_cons_zero, List.set_cons_succ]
            refine rv_det (by kernel_rfl) rfl (by intro w hG hH; obtain ⟨n, rfl⟩ := hG; go_simp; first | done | with_reducible rfl) ?_
            simp only [Act.put, List.setIfInBounds_toArray, List.set_cons_zero, List.set_cons_succ]
            iterate 2 (refine rv_skip (by kernel_rfl) ?_; simp only [Act.put, List.setIfInBounds_toArray, List.set_cons_zero, List.set_cons_succ])
            iterate 11 (refine rv_det (by kernel_rfl) rfl (by intro w hG hH; obtain ⟨n, rfl⟩ := hG; go_simp; first | done | with_reducible rfl) ?_; simp only [Act.put, List.setIfInBounds_toArray, List.set_cons_zero, List.set_cons_succ])
            refine rv_nil (fun w hG hH => ?_)
            obtain ⟨n, rfl⟩ := hG
            clear hH
            go_wp2
            (try simp only [Exit.inBlock, Exit.then])
            refine bodyPost_ret (results_tmp rfl _ _ _) rfl ?_
            exact ⟨ret_eq (by rw [HV.out, HE.out]; rfl), by rw [HE.out]; exact HX.out.1.stuck true, (HX.out.2.drewN _).setCell (p := ⟨b, 2, none⟩) (fun _ => rfl) (.bool true)⟩
        case false =>
          have HN : Hid (R = nameF s i0 g (s.size - (j + 1)) (j + 1)) := Lib.hid HN0.out
          cases gr
          case true =>
            obtain rfl : g = true := by cases g <;> simp at hst <;> rfl
            clear hst
            go_wp2_with fail
            refine wp_region_rv 24 GQ (kindV [(9, fun v => v = .bool true)]) (by kernel_rfl) (by kernel_rfl) GQ.trans GQ.refl (GQ.start _) (kindV_mono _) ?_
            simp only [List.take_succ_cons, List.take_zero, List.drop_succ_cons, List.drop_zero]
            iterate 9 (refine rv_det (by kernel_rfl) rfl (by intro w hG hH; obtain ⟨n, rfl⟩ := hG; go_simp; first | done | with_reducible rfl) ?_; simp only [Act.put, List.setIfInBounds_toArray, List.set_cons_zero, List.set_cons_succ])
            refine rv_rel (by kernel_rfl) rfl ⟨_, rfl⟩ (by
              intro w hG hH; obtain ⟨n, rfl⟩ := hG
              refine opVal_call (by go_simp; first | done | exact ⟨⟨rfl, rfl⟩, rfl⟩) ?_
              refine (HG.out _).mono ?_
              rintro e w' ⟨rfl, hq⟩
              exact ⟨_, rfl, rfl, by (first | (obtain ⟨nq, rfl⟩ := hq) | subst hq); (try simp only [drew_eq1, drewN_drewN]); first | exact ⟨0, rfl⟩ | exact ⟨_, rfl⟩ | exact gq_le (by omega), trivial⟩) ?_
            rintro v rfl
            simp only [Act.put, List.setIfInBounds_toArray, List.set_cons_zero, List.set_cons_succ]
            iterate 14 (refine rv_det (by kernel_rfl) rfl (by intro w hG hH; obtain ⟨n, rfl⟩ := hG; go_simp; first | done | with_reducible rfl) ?_; simp only [Act.put, List.setIfInBounds_toArray, List.set_cons_zero, List.set_cons_succ])
            refine rv_nil (fun w hG hH => ?_)
            obtain ⟨n, rfl⟩ := hG
            clear hH
            go_wp2
            go_roundw
            case rel => exact ⟨j + 1, by omega, by omega, by have := HX.out.1.go (j + 1); push_cast at this; exact this, HN.out, by have := (HX.out.2.drewN (m + n)).setCell (p := ⟨b, 1, none⟩) (fun _ => rfl) (.int .i64 ((j + 1 : Nat) : Int)); push_cast at this; exact this⟩
            case measure =>
              have h1 := HX.out.1.at_
              have h2 := (HX.out.1.go (j + 1)).at_
              push_cast at h2
              have h3 : ∀ n, lxAt ((wr.drewN n).setCell ⟨b, 1, none⟩ (.int .i64 ((j : Int) + 1))) b = j + 1 := fun n => h2
              rw [h1, h3]; omega
          case false =>
            clear hst
            go_wp2_with fail
            refine wp_region_rv 24 GQ (kindV [(9, fun v => v = .bool false)]) (by kernel_rfl) (by kernel_rfl) GQ.trans GQ.refl (GQ.start _) (kindV_mono _) ?_
            simp only [List.take_succ_cons, List.take_zero, List.drop_succ_cons, List.drop_zero]
            iterate 9 (refine rv_det (by kernel_rfl) rfl (by intro w hG hH; obtain ⟨n, rfl⟩ := hG; go_simp; first | done | with_reducible rfl) ?_; simp only [Act.put, List.setIfInBounds_toArray, List.set_cons_zero, List.set_cons_succ])
            refine rv_rel (by kernel_rfl) rfl ⟨_, rfl⟩ (by
              intro w hG hH; obtain ⟨n, rfl⟩ := hG
              refine opVal_call (by go_simp; first | done | exact ⟨⟨rfl, rfl⟩, rfl⟩) ?_
              refine (HG.out _).mono ?_
              rintro e w' ⟨rfl, hq⟩
              exact ⟨_, rfl, rfl, by (first | (obtain ⟨nq, rfl⟩ := hq) | subst hq); (try simp only [drew_eq1, drewN_drewN]); first | exact ⟨0, rfl⟩ | exact ⟨_, rfl⟩ | exact gq_le (by omega), trivial⟩) ?_
            rintro v rfl
            simp only [Act.put, List.setIfInBounds_toArray, List.set_cons_zero, List.set_cons_succ]
            refine rv_det (by kernel_rfl) rfl (by intro w hG hH; obtain ⟨n, rfl⟩ := hG; go_simp; first | done | with_reducible rfl) ?_
            simp only [Act.put, List.setIfInBounds_toArray, List.set_cons_zero, List.set_cons_succ]
            iterate 2 (refine rv_skip (by kernel_rfl) ?_; simp only [Act.put, List.setIfInBounds_toArray, List.set_cons_zero, List.set_cons_succ])
            iterate 11 (refine rv_det (by kernel_rfl) rfl (by intro w hG hH; obtain ⟨n, rfl⟩ := hG; go_simp; first | done | with_reducible rfl) ?_; simp only [Act.put, List.setIfInBounds_toArray, List.set_cons_zero, List.set_cons_succ])
            refine rv_nil (fun w hG hH => ?_)
            obtain ⟨n, rfl⟩ := hG
            clear hH
            go_wp2
            go_roundw
            case rel => exact ⟨j + 1, by omega, by omega, by have := HX.out.1.go (j + 1); push_cast at this; exact this, HN.out, by have := (HX.out.2.drewN (m + n)).setCell (p := ⟨b, 1, none⟩) (fun _ => rfl) (.int .i64 ((j + 1 : Nat) : Int)); push_cast at this; exact this⟩
            case measure =>
              have h1 := HX.out.1.at_
              have h2 := (HX.out.1.go (j + 1)).at_
              push_cast at h2
              have h3 : ∀ n, lxAt ((wr.drewN n).setCell ⟨b, 1, none⟩ (.int .i64 ((j : Int) + 1))) b = j + 1 := fun n => h2
              rw [h1, h3]; omega
end Go.Proofs.YtcbifoimfhfccaaGreatDoor

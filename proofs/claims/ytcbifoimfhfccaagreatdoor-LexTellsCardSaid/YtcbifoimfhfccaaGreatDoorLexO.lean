/- loanwordref02: Lex. -/
import Derived.Test.YtcbifoimfhfccaaGreatDoorLexN
namespace Go.Proofs.YtcbifoimfhfccaaGreatDoor
open Go.RowKit

set_option maxRecDepth 100000 in
set_option maxHeartbeats 8000000 in
theorem rlex_any (s : ByteArray) (hs0 : s.size ≤ 9223372036854775807) (w : World) :
    Calls Tryz.prog 20 #[.string s] w fun e w' => ∃ v, e = .returned (.tuple #[v, .int .i64 ((lexS s).2.1 : Nat), .int .i64 ((lexS s).2.2 : Nat)]) ∧ OwnTk w' w.heap.size v (lexS s).1 ∧ KB F0 w w' := by
  obtain ⟨w0, rfl⟩ : ∃ w0, w0 = w := ⟨_, rfl⟩
  obtain ⟨O, hO⟩ : ∃ O, O = lexS s := ⟨_, rfl⟩
  rw [← hO]
  have HO := Lib.hid hO
  clear hO
  by_cases hbig : 65536 < s.size
  · have d1 : decide ((65536 : Int) < (s.size : Int)) = true := decide_eq_true (by omega)
    have HE : Hid (O = ([], 0, 3)) := Lib.hid (by rw [HO.out, lexS, if_pos hbig])
    clear hbig
    go_enter Tryz.func20, Tryz.ntmps20
    go_wp2
    (try simp only [Exit.inBlock, Exit.then])
    refine bodyPost_ret (results_tmp3 rfl _ _ _) rfl ?_
    exact ⟨_, ret_eq (by rw [HE.out]; rfl), by rw [HE.out]; exact ownTk_nil _ _, KB.refl _ _⟩
  have d1 : decide ((65536 : Int) < (s.size : Int)) = false := decide_eq_false (by omega)
  have HO1 : Hid (O = lexG s 0 []) := Lib.hid (by rw [HO.out, lexS, if_neg hbig])
  have hs : s.size ≤ 65536 := by omega
  clear hbig
  go_enter Tryz.func20, Tryz.ntmps20
  go_wp2_with fail
  go_loopw [5, 6] (fun lv jv wr => ∃ (j : Nat) (ts : List Tk), j ≤ s.size ∧ ts.length ≤ j ∧ jv = .int .i64 (j : Nat) ∧ OwnTk wr w0.heap.size lv ts ∧ Hid (O = lexG s j ts) ∧ KB F0 w0 wr) (fun _ jv _ => s.size - (intOf jv).toNat)
  case atStart => exact ⟨0, [], by omega, Nat.zero_le _, rfl, ownTk_nil _ _, Lib.hid HO1.out, KB.refl _ _⟩
  case round =>
    obtain ⟨j, ts, hj, htl, rfl, hown, hr, hkb⟩ := hrel
    have HX := Lib.hid (And.intro hown (And.intro hr hkb))
    clear hown hr hkb
    by_cases hlt : j < s.size
    · have d2 : decide ((j : Int) < (s.size : Int)) = true := decide_eq_true (by omega)
      have hb := byteAt_eq s j hlt
      have RB := Lib.hid (rfBlank_any (byteAt s j) wr)
      obtain ⟨p, hp⟩ : ∃ p, p = blankB (byteAt s j) := ⟨_, rfl⟩
      rw [← hp] at RB
      have HP := Lib.hid hp
      clear hp
      cases p
      case true =>
        have HN : Hid (O = lexG s (j + 1) ts) := Lib.hid (by rw [HX.out.2.1.out, lexG_blank hlt HP.out.symm])
        go_wp2_with fail
        refine RB.out.mono ?_
        rintro e w' ⟨rfl, rfl⟩
        go_wp2
        go_roundw
        case rel => exact ⟨j + 1, ts, by omega, by omega, by go_num, HX.out.1, HN, HX.out.2.2⟩
        case measure => simp [intOf]; omega
      case false =>
        obtain ⟨c, hc⟩ : ∃ c, c = byteAt s j := ⟨_, rfl⟩
        rw [← hc] at hb RB
        have HC := Lib.hid hc
        clear hc
        by_cases hcm : commB s j = true
        · have hcm0 := hcm
          unfold commB at hcm0
          simp only [Bool.and_eq_true, decide_eq_true_eq] at hcm0
          obtain ⟨⟨h1, h2⟩, h3⟩ := hcm0
          have t1 : ((c : Int) == 47) = true := by rw [HC.out, h2]; rfl
          have t2 : decide ((j : Int) + 1 < (s.size : Int)) = true := decide_eq_true (by omega)
          have i2 : (j : Int) + 1 < (s.size : Int) := by omega
          have hb1 := byteAt_eq s (j + 1) h1
          have t3 : ((byteAt s (j + 1) : Int) == 47) = true := by rw [h3]; rfl
          have hle := lineE_lt hcm
          have HN : Hid (O = lexG s (lineE s j) ts) := Lib.hid (by rw [HX.out.2.1.out, lexG_comm hlt HP.out.symm hcm])
          clear h2 h3 hcm
          go_wp2_with fail
          refine RB.out.mono ?_
          rintro e w' ⟨rfl, rfl⟩
          go_wp2_with fail
          clear d2 hb hb1 t1 t2 t3 i2
          go_loop [6] (fun kv => ∃ k, j ≤ k ∧ k ≤ s.size ∧ kv = .int .i64 (k : Nat) ∧ Hid (lineE s j = lineF s (s.size - k) k)) (fun kv => s.size - (intOf kv).toNat)
          case atStart => exact ⟨j, Nat.le_refl _, hj, rfl, Lib.hid rfl⟩
          case round =>
            obtain ⟨k, hk1, hk2, rfl, hln⟩ := hrel
            by_cases hkl : k < s.size
            · have d3 : decide ((k : Int) < (s.size : Int)) = true := decide_eq_true (by omega)
              have hbk := byteAt_eq s k hkl
              have hf : lineF s (s.size - k) k = if byteAt s k = 10 then k else lineF s (s.size - (k + 1)) (k + 1) := by
                rw [show s.size - k = (s.size - (k + 1)) + 1 by omega, lineF]
              by_cases h10 : byteAt s k = 10
              · have t1 : ((byteAt s k : Int) == 10) = true := by rw [h10]; rfl
                have HE : Hid (lineE s j = k) := Lib.hid (by rw [hln.out, hf, if_pos h10])
                clear hf h10 hln
                go_wp2
                go_roundw
                case rel => exact ⟨k, ts, by omega, by omega, rfl, HX.out.1, by rw [← HE.out]; exact HN, HX.out.2.2⟩
                case measure =>
                  have := hle.1
                  rw [HE.out] at this
                  simp [intOf]; omega
              · have t1 : ((byteAt s k : Int) == 10) = false := by simp; omega
                have HE : Hid (lineE s j = lineF s (s.size - (k + 1)) (k + 1)) := Lib.hid (by rw [hln.out, hf, if_neg h10])
                clear hf h10 hln
                go_wp2
                go_round
                case rel => exact ⟨k + 1, by omega, by omega, by go_num, HE⟩
                case measure => simp [intOf]; omega
            · obtain rfl : k = s.size := by omega
              have d3 : decide ((s.size : Int) < (s.size : Int)) = false := decide_eq_false (by omega)
              have HE : Hid (lineE s j = s.size) := Lib.hid (by rw [hln.out, Nat.sub_self, lineF])
              clear hln
              go_wp2
              go_roundw
              case rel => exact ⟨s.size, ts, by omega, by omega, rfl, HX.out.1, by rw [← HE.out]; exact HN, HX.out.2.2⟩
              case measure => simp [intOf]; omega
        · have hcf : commB s j = false := by simpa using hcm
          have ONE := Lib.hid (rone_any s j hlt hs wr)
          obtain ⟨T, hTe⟩ : ∃ T, T = oneS s j := ⟨_, rfl⟩
          rw [← hTe] at ONE
          have HTE := Lib.hid hTe
          have HCF := Lib.hid hcf
          clear hTe hcm hcf
          have KEY : ∀ K : Prop, (((c : Int) == 47) = false → K) → (((c : Int) == 47) = true → decide ((j : Int) + 1 < (s.size : Int)) = false → K) →
              (((c : Int) == 47) = true → ∀ h : j + 1 < s.size, (s[j + 1]'h).toNat = byteAt s (j + 1) → decide ((j : Int) + 1 < (s.size : Int)) = true → ((byteAt s (j + 1) : Int) == 47) = false → K) → K := by
            intro K k1 k2 k3
            have h := HCF.out
            unfold commB at h
            rw [← HC.out] at h
            by_cases e1 : c = 47
            · by_cases e2 : j + 1 < s.size
              · refine k3 (by rw [e1]; rfl) e2 (byteAt_eq s (j + 1) e2) (decide_eq_true (by omega)) ?_
                rw [decide_eq_true e1, decide_eq_true e2] at h
                simp only [Bool.and_self, Bool.true_and, decide_eq_false_iff_not] at h
                simp; omega
              · exact k2 (by rw [e1]; rfl) (decide_eq_false (by omega))
            · exact k1 (by simp; omega)
          refine KEY _ ?_ ?_ ?_
          · intro t1
            clear KEY
            go_wp2_with fail
            refine RB.out.mono ?_
            rintro e w' ⟨rfl, rfl⟩
            go_wp2_with fail
            refine ONE.out.mono ?_
            rintro e W3 ⟨t, rfl, ht, k3⟩
            obtain ⟨T1, E, ok⟩ := T
            have H3 := Lib.hid (And.intro ht (And.intro (HX.out.1.kbF k3) (HX.out.2.2.trans k3)))
            clear ht k3
            rw [show tkC t = #[.int .u8 (t.k : Nat), .int .i64 t.at_, .int .i64 t.n, .string t.s] from rfl]
            obtain ⟨W4, hW4⟩ : ∃ W4, W4 = W3.alloc (.cells #[.int .u8 (t.k : Nat), .int .i64 t.at_, .int .i64 t.n, .string t.s] 27) := ⟨_, rfl⟩
            have k4 : KB F0 W3 W4 := by rw [hW4]; exact (KB.refl _ _).alloc _
            have hT4 : TK W4 W3.heap.size t := by rw [hW4]; exact alloc_new _ _
            have y0 : W4.cell? ⟨W3.heap.size, 0, none⟩ = some (.int .u8 (t.k : Nat)) := blk_cell hT4 0
            have y1 : W4.cell? ⟨W3.heap.size, 1, none⟩ = some (.int .i64 t.at_) := blk_cell hT4 1
            have y2 : W4.cell? ⟨W3.heap.size, 2, none⟩ = some (.int .i64 t.n) := blk_cell hT4 2
            have y3 : W4.cell? ⟨W3.heap.size, 3, none⟩ = some (.string t.s) := blk_cell hT4 3
            have H4 := Lib.hid (And.intro (H3.out.2.1.kbF k4) (H3.out.2.2.trans k4))
            rw [hW4] at y0 y1 y2 y3
            have HW4 := Lib.hid hW4
            clear hW4 k4 hT4
            cases ok
            case false =>
              have HE : Hid (O = ([], E, 20)) := Lib.hid (by rw [HX.out.2.1.out, lexG_bad hlt HP.out.symm HCF.out (by rw [← HTE.out]), ← HTE.out])
              go_wp2
              (try simp only [Exit.inBlock, Exit.then])
              refine bodyPost_ret (results_tmp3 rfl _ _ _) rfl ?_
              exact ⟨_, ret_eq (by rw [HE.out]; rfl), by rw [HE.out]; exact ownTk_nil _ _, by have := H4.out.2; rw [HW4.out] at this; exact this⟩
            case true =>
              have hTl : j < E ∧ E ≤ s.size := by
                have := oneS_lt hlt (by rw [← HTE.out])
                rw [← HTE.out] at this
                exact this
              have HR2 : Hid (O = lexG s E (ts ++ [t])) := Lib.hid (by rw [HX.out.2.1.out, lexG_one hlt HP.out.symm HCF.out (by rw [← HTE.out]), ← HTE.out, H3.out.1 rfl])
              go_wp2_with (at_builtin; refine Stopped.out ?_)
              refine ⟨?_⟩
              rw [← HW4.out]
              have ka : KB F0 W4 (W4.alloc (.cells #[.int .u8 (t.k : Nat), .int .i64 t.at_, .int .i64 t.n, .string t.s] 27)) := (KB.refl _ _).alloc _
              have HA := Lib.hid (And.intro (H4.out.1.kbF ka) (And.intro (H4.out.2.trans ka) (alloc_new W4 (.cells #[.int .u8 (t.k : Nat), .int .i64 t.at_, .int .i64 t.n, .string t.s] 27))))
              have hs4 : w0.heap.size ≤ W4.heap.size := H4.out.2.size
              have hbl : W3.heap.size + 1 = W4.heap.size := by rw [HW4.out]; simp
              refine appRow 22 27 w0.heap.size (tkC t).toList Tryz.infoTok Tryz.underlying22 rfl (by decide) HA.out.1 rfl rfl rfl (by first | rfl | (rw [hbl]; rfl)) HA.out.2.2 rfl (by intro u hu; simp [tkC] at hu; rcases hu with rfl | rfl | rfl | rfl <;> rfl) (by unfold maxLen; omega) (by omega) (by simp; omega) ?_
              intro v' w' hown' hgr
              have hpush : OwnTk w' w0.heap.size v' (ts ++ [t]) := by
                unfold OwnTk
                rw [tkCells_app, List.length_append]
                exact hown'
              have hkb5 := HA.out.2.1.grown hgr (fun g e h => by
                obtain ⟨c, -, h2⟩ := own_block HA.out.1 e
                omega)
              have H5 := Lib.hid (And.intro hpush hkb5)
              have hln : (ts ++ [t]).length ≤ E := by rw [List.length_append, List.length_singleton]; omega
              clear hown' hgr hpush hkb5 ka
              go_wp2
              go_roundw
              case rel => exact ⟨E, ts ++ [t], hTl.2, hln, rfl, H5.out.1, HR2, H5.out.2⟩
              case measure => simp [intOf]; omega
          · intro t1 t2
            clear KEY
            go_wp2_with fail
            refine RB.out.mono ?_
            rintro e w' ⟨rfl, rfl⟩
            go_wp2_with fail
            refine ONE.out.mono ?_
            rintro e W3 ⟨t, rfl, ht, k3⟩
            obtain ⟨T1, E, ok⟩ := T
            have H3 := Lib.hid (And.intro ht (And.intro (HX.out.1.kbF k3) (HX.out.2.2.trans k3)))
            clear ht k3
            rw [show tkC t = #[.int .u8 (t.k : Nat), .int .i64 t.at_, .int .i64 t.n, .string t.s] from rfl]
            obtain ⟨W4, hW4⟩ : ∃ W4, W4 = W3.alloc (.cells #[.int .u8 (t.k : Nat), .int .i64 t.at_, .int .i64 t.n, .string t.s] 27) := ⟨_, rfl⟩
            have k4 : KB F0 W3 W4 := by rw [hW4]; exact (KB.refl _ _).alloc _
            have hT4 : TK W4 W3.heap.size t := by rw [hW4]; exact alloc_new _ _
            have y0 : W4.cell? ⟨W3.heap.size, 0, none⟩ = some (.int .u8 (t.k : Nat)) := blk_cell hT4 0
            have y1 : W4.cell? ⟨W3.heap.size, 1, none⟩ = some (.int .i64 t.at_) := blk_cell hT4 1
            have y2 : W4.cell? ⟨W3.heap.size, 2, none⟩ = some (.int .i64 t.n) := blk_cell hT4 2
            have y3 : W4.cell? ⟨W3.heap.size, 3, none⟩ = some (.string t.s) := blk_cell hT4 3
            have H4 := Lib.hid (And.intro (H3.out.2.1.kbF k4) (H3.out.2.2.trans k4))
            rw [hW4] at y0 y1 y2 y3
            have HW4 := Lib.hid hW4
            clear hW4 k4 hT4
            cases ok
            case false =>
              have HE : Hid (O = ([], E, 20)) := Lib.hid (by rw [HX.out.2.1.out, lexG_bad hlt HP.out.symm HCF.out (by rw [← HTE.out]), ← HTE.out])
              go_wp2
              (try simp only [Exit.inBlock, Exit.then])
              refine bodyPost_ret (results_tmp3 rfl _ _ _) rfl ?_
              exact ⟨_, ret_eq (by rw [HE.out]; rfl), by rw [HE.out]; exact ownTk_nil _ _, by have := H4.out.2; rw [HW4.out] at this; exact this⟩
            case true =>
              have hTl : j < E ∧ E ≤ s.size := by
                have := oneS_lt hlt (by rw [← HTE.out])
                rw [← HTE.out] at this
                exact this
              have HR2 : Hid (O = lexG s E (ts ++ [t])) := Lib.hid (by rw [HX.out.2.1.out, lexG_one hlt HP.out.symm HCF.out (by rw [← HTE.out]), ← HTE.out, H3.out.1 rfl])
              go_wp2_with (at_builtin; refine Stopped.out ?_)
              refine ⟨?_⟩
              rw [← HW4.out]
              have ka : KB F0 W4 (W4.alloc (.cells #[.int .u8 (t.k : Nat), .int .i64 t.at_, .int .i64 t.n, .string t.s] 27)) := (KB.refl _ _).alloc _
              have HA := Lib.hid (And.intro (H4.out.1.kbF ka) (And.intro (H4.out.2.trans ka) (alloc_new W4 (.cells #[.int .u8 (t.k : Nat), .int .i64 t.at_, .int .i64 t.n, .string t.s] 27))))
              have hs4 : w0.heap.size ≤ W4.heap.size := H4.out.2.size
              have hbl : W3.heap.size + 1 = W4.heap.size := by rw [HW4.out]; simp
              refine appRow 22 27 w0.heap.size (tkC t).toList Tryz.infoTok Tryz.underlying22 rfl (by decide) HA.out.1 rfl rfl rfl (by first | rfl | (rw [hbl]; rfl)) HA.out.2.2 rfl (by intro u hu; simp [tkC] at hu; rcases hu with rfl | rfl | rfl | rfl <;> rfl) (by unfold maxLen; omega) (by omega) (by simp; omega) ?_
              intro v' w' hown' hgr
              have hpush : OwnTk w' w0.heap.size v' (ts ++ [t]) := by
                unfold OwnTk
                rw [tkCells_app, List.length_append]
                exact hown'
              have hkb5 := HA.out.2.1.grown hgr (fun g e h => by
                obtain ⟨c, -, h2⟩ := own_block HA.out.1 e
                omega)
              have H5 := Lib.hid (And.intro hpush hkb5)
              have hln : (ts ++ [t]).length ≤ E := by rw [List.length_append, List.length_singleton]; omega
              clear hown' hgr hpush hkb5 ka
              go_wp2
              go_roundw
              case rel => exact ⟨E, ts ++ [t], hTl.2, hln, rfl, H5.out.1, HR2, H5.out.2⟩
              case measure => simp [intOf]; omega
          · intro t1 h1 hb1 t2 t3
            have i2 : (j : Int) + 1 < (s.size : Int) := by omega
            clear KEY
            go_wp2_with fail
            refine RB.out.mono ?_
            rintro e w' ⟨rfl, rfl⟩
            go_wp2_with fail
            refine ONE.out.mono ?_
            rintro e W3 ⟨t, rfl, ht, k3⟩
            obtain ⟨T1, E, ok⟩ := T
            have H3 := Lib.hid (And.intro ht (And.intro (HX.out.1.kbF k3) (HX.out.2.2.trans k3)))
            clear ht k3
            rw [show tkC t = #[.int .u8 (t.k : Nat), .int .i64 t.at_, .int .i64 t.n, .string t.s] from rfl]
            obtain ⟨W4, hW4⟩ : ∃ W4, W4 = W3.alloc (.cells #[.int .u8 (t.k : Nat), .int .i64 t.at_, .int .i64 t.n, .string t.s] 27) := ⟨_, rfl⟩
            have k4 : KB F0 W3 W4 := by rw [hW4]; exact (KB.refl _ _).alloc _
            have hT4 : TK W4 W3.heap.size t := by rw [hW4]; exact alloc_new _ _
            have y0 : W4.cell? ⟨W3.heap.size, 0, none⟩ = some (.int .u8 (t.k : Nat)) := blk_cell hT4 0
            have y1 : W4.cell? ⟨W3.heap.size, 1, none⟩ = some (.int .i64 t.at_) := blk_cell hT4 1
            have y2 : W4.cell? ⟨W3.heap.size, 2, none⟩ = some (.int .i64 t.n) := blk_cell hT4 2
            have y3 : W4.cell? ⟨W3.heap.size, 3, none⟩ = some (.string t.s) := blk_cell hT4 3
            have H4 := Lib.hid (And.intro (H3.out.2.1.kbF k4) (H3.out.2.2.trans k4))
            rw [hW4] at y0 y1 y2 y3
            have HW4 := Lib.hid hW4
            clear hW4 k4 hT4
            cases ok
            case false =>
              have HE : Hid (O = ([], E, 20)) := Lib.hid (by rw [HX.out.2.1.out, lexG_bad hlt HP.out.symm HCF.out (by rw [← HTE.out]), ← HTE.out])
              go_wp2
              (try simp only [Exit.inBlock, Exit.then])
              refine bodyPost_ret (results_tmp3 rfl _ _ _) rfl ?_
              exact ⟨_, ret_eq (by rw [HE.out]; rfl), by rw [HE.out]; exact ownTk_nil _ _, by have := H4.out.2; rw [HW4.out] at this; exact this⟩
            case true =>
              have hTl : j < E ∧ E ≤ s.size := by
                have := oneS_lt hlt (by rw [← HTE.out])
                rw [← HTE.out] at this
                exact this
              have HR2 : Hid (O = lexG s E (ts ++ [t])) := Lib.hid (by rw [HX.out.2.1.out, lexG_one hlt HP.out.symm HCF.out (by rw [← HTE.out]), ← HTE.out, H3.out.1 rfl])
              go_wp2_with (at_builtin; refine Stopped.out ?_)
              refine ⟨?_⟩
              rw [← HW4.out]
              have ka : KB F0 W4 (W4.alloc (.cells #[.int .u8 (t.k : Nat), .int .i64 t.at_, .int .i64 t.n, .string t.s] 27)) := (KB.refl _ _).alloc _
              have HA := Lib.hid (And.intro (H4.out.1.kbF ka) (And.intro (H4.out.2.trans ka) (alloc_new W4 (.cells #[.int .u8 (t.k : Nat), .int .i64 t.at_, .int .i64 t.n, .string t.s] 27))))
              have hs4 : w0.heap.size ≤ W4.heap.size := H4.out.2.size
              have hbl : W3.heap.size + 1 = W4.heap.size := by rw [HW4.out]; simp
              refine appRow 22 27 w0.heap.size (tkC t).toList Tryz.infoTok Tryz.underlying22 rfl (by decide) HA.out.1 rfl rfl rfl (by first | rfl | (rw [hbl]; rfl)) HA.out.2.2 rfl (by intro u hu; simp [tkC] at hu; rcases hu with rfl | rfl | rfl | rfl <;> rfl) (by unfold maxLen; omega) (by omega) (by simp; omega) ?_
              intro v' w' hown' hgr
              have hpush : OwnTk w' w0.heap.size v' (ts ++ [t]) := by
                unfold OwnTk
                rw [tkCells_app, List.length_append]
                exact hown'
              have hkb5 := HA.out.2.1.grown hgr (fun g e h => by
                obtain ⟨c, -, h2⟩ := own_block HA.out.1 e
                omega)
              have H5 := Lib.hid (And.intro hpush hkb5)
              have hln : (ts ++ [t]).length ≤ E := by rw [List.length_append, List.length_singleton]; omega
              clear hown' hgr hpush hkb5 ka
              go_wp2
              go_roundw
              case rel => exact ⟨E, ts ++ [t], hTl.2, hln, rfl, H5.out.1, HR2, H5.out.2⟩
              case measure => simp [intOf]; omega
    · obtain rfl : j = s.size := by omega
      have HE : Hid (O = (ts, 0, 0)) := Lib.hid (by rw [HX.out.2.1.out, lexG_end (Nat.le_refl _)])
      have d2 : decide ((s.size : Int) < (s.size : Int)) = false := decide_eq_false (by omega)
      go_wp2
      (try simp only [Exit.inBlock, Exit.then])
      refine bodyPost_ret (results_tmp3 rfl _ _ _) rfl ?_
      exact ⟨_, ret_eq (by rw [HE.out]; rfl), by rw [HE.out]; exact HX.out.1, HX.out.2.2⟩
end Go.Proofs.YtcbifoimfhfccaaGreatDoor

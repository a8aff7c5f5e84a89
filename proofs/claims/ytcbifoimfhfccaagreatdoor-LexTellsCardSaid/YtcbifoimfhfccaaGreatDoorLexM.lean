/- loanwordref02: Word, sign. -/
import Derived.Test.YtcbifoimfhfccaaGreatDoorLexL
import Derived.Test.YtcbifoimfhfccaaGreatDoorLexK
import Derived.Laws.Tables
namespace Go.Proofs.YtcbifoimfhfccaaGreatDoor
open Go.RowKit

def wordL21 : List ByteArray := wordL ++ [⟨#[]⟩, ⟨#[]⟩]
theorem bool_dec (p : Prop) [Decidable p] (b : Bool) (h : b = true ↔ p) : decide p = b := by
  cases b
  · exact decide_eq_false (fun x => Bool.noConfusion (h.2 x))
  · exact decide_eq_true (h.1 rfl)
theorem wordB_no {s : ByteArray} (h : ∀ q, q < 19 → ¬ wordL21.getD q ByteArray.empty = s) : wordB s = false := by
  cases hw : wordB s
  · rfl
  · obtain ⟨k, hk, e⟩ := List.getElem_of_mem (wordB_iff.1 hw)
    refine absurd ?_ (h k hk)
    unfold wordL21
    rw [List.getD_eq_getElem?_getD, List.getElem?_append_left hk, List.getElem?_eq_getElem hk]
    exact e
theorem wordB_yes {s : ByteArray} {q : Nat} (hq : q < 19) (h : wordL21.getD q ByteArray.empty = s) : wordB s = true := by
  rw [wordB_iff, ← h]
  have hk : q < wordL.length := hq
  unfold wordL21
  rw [List.getD_eq_getElem?_getD, List.getElem?_append_left hk, List.getElem?_eq_getElem hk]
  exact List.getElem_mem hk

theorem tl_beq (p s : ByteArray) : (p.toList == s.toList) = decide (p = s) := by
  rw [toList_beq, ByteArray.toList_eq]
def WL21 : Array Value := (wordL21.map Value.string).toArray
theorem alloc_setRow (w : World) (old cs : Array Value) (t : TypeId) : (w.alloc (.cells old t)).setRow w.heap.size cs = w.alloc (.cells cs t) := by
  simp only [World.setRow, World.alloc]
  congr 1
  apply Array.ext
  · simp
  · intro i h1 h2
    simp only [Array.size_modify, Array.size_push] at h1
    rw [Array.getElem_modify]
    by_cases h : w.heap.size = i
    · subst h; simp
    · rw [if_neg h, Array.getElem_push_lt (by omega), Array.getElem_push_lt (by omega)]
theorem build_row {P : Program} {ops : Array Oper} {rest : List Oper} {o : Oper} {a : Act} {w : World} {Q : Exit → Act → World → Prop} (cs : Array Value) (hg : o.guard = none) (t : TypeId) (parts : Array (Nat × Operand)) (ho : o.op = .build t parts)
    (hf : P.built t (parts.map fun (i, x) => (i, a.eval x)).toList = some cs)
    (h : wpList P ops Q rest (a.put o.dst (.agg cs)) w) : wpList P ops Q (o :: rest) a w :=
  wpList_build hg t parts ho (by rw [hf]; rfl) (by rw [hf]; exact h)

set_option maxRecDepth 100000 in
set_option maxHeartbeats 4000000 in
theorem rword_any (s : ByteArray) (w : World) : Calls Tryz.prog 68 #[.string s] w fun e w' => e = .returned (.bool (wordB s)) ∧ KB F0 w w' := by
  obtain ⟨w0, rfl⟩ : ∃ w0, w0 = w := ⟨_, rfl⟩
  obtain ⟨R, hR⟩ : ∃ R, R = wordB s := ⟨_, rfl⟩
  rw [← hR]
  have HR := Lib.hid hR
  clear hR
  go_enter Tryz.func68, Tryz.ntmps68
  go_wp2_with (first | refine build_row WL21 rfl 111 _ rfl (by kernel_rfl) ?_ | refine wpList_store_row rfl 111 _ _ rfl _ WL21 rfl rfl 111 _ (alloc_new _ _) (by kernel_rfl) (by kernel_rfl) (by kernel_rfl) ?_)
  rw [alloc_setRow]
  obtain ⟨W3, hW3⟩ : ∃ W3, W3 = w0.alloc (.cells WL21 111) := ⟨_, rfl⟩
  rw [← hW3]
  have k3 : KB F0 w0 W3 := by rw [hW3]; exact (KB.refl _ _).alloc _
  have h3 : W3.heap[w0.heap.size]? = some (.cells WL21 111 (0, 0)) := by rw [hW3]; exact alloc_new _ _
  have H3 := Lib.hid (And.intro k3 h3)
  clear hW3 k3 h3
  go_loop [4] (fun jv => ∃ j : Nat, j ≤ 19 ∧ jv = .int .i64 j ∧ Hid (∀ q, q < j → ¬ wordL21.getD q ByteArray.empty = s)) (fun jv => 19 - (intOf jv).toNat)
  case atStart => exact ⟨0, by omega, rfl, Lib.hid (fun q h => by omega)⟩
  case round =>
    obtain ⟨j, hj, rfl, hno⟩ := hrel
    by_cases hlt : j < 19
    · have hL : j < wordL21.length := by unfold wordL21; simp [wordL]; omega
      have cs : W3.cell? ⟨w0.heap.size, j, none⟩ = some (.string (wordL21.getD j ByteArray.empty)) := by
        rw [blk_cell H3.out.2 j, WL21]
        simp [List.getD_eq_getElem?_getD, hL]
      have d1 : decide ((j : Int) < 19) = true := decide_eq_true (by omega)
      obtain ⟨p, hp⟩ : ∃ p, p = wordL21.getD j ByteArray.empty := ⟨_, rfl⟩
      rw [← hp] at cs
      have HP := Lib.hid hp
      clear hp hL
      by_cases he : p = s
      · have HE : Hid (R = true) := Lib.hid (by rw [HR.out]; exact wordB_yes hlt (by rw [← HP.out]; exact he))
        clear hno
        subst he
        go_wp2
        (try simp only [Exit.inBlock, Exit.then])
        refine bodyPost_ret (results_tmp rfl _ _ _) rfl ?_
        exact ⟨ret_eq (by rw [HE.out]; rfl), H3.out.1⟩
      · have HN : Hid (∀ q, q < j + 1 → ¬ wordL21.getD q ByteArray.empty = s) := Lib.hid (fun q h => by
          rcases Nat.lt_or_eq_of_le (Nat.lt_succ_iff.1 h) with h | rfl
          · exact hno.out q h
          · rw [← HP.out]; exact he)
        have d2 : (p.toList == s.toList) = false := by rw [tl_beq]; exact decide_eq_false he
        clear hno
        go_wp2
        exact ⟨⟨j + 1, by omega, by go_num, HN.out⟩, by simp [intOf]; omega⟩
    · obtain rfl : j = 19 := by omega
      have HE : Hid (R = false) := Lib.hid (by rw [HR.out]; exact wordB_no hno.out)
      clear hno
      go_wp2
      (try simp only [Exit.inBlock, Exit.then])
      refine bodyPost_ret (results_tmp rfl _ _ _) rfl ?_
      exact ⟨ret_eq (by rw [HE.out]; rfl), H3.out.1⟩

def WL7 : Array Value := (twoL.map Value.string).toArray
def oneT : ByteArray := ⟨#[123, 125, 40, 41, 60, 62, 44, 59, 58, 46, 38, 42, 33, 61, 43, 45, 47, 37]⟩
theorem oneT_at : ∀ k, k < 18 → oneL.getD k ByteArray.empty = ⟨#[oneT.data.toList.getD k 0]⟩ := by decide
theorem ext0_pre {u p : ByteArray} (hp : p.size = 2) (h : 1 < u.size) : decide (u.extract 0 2 = p) = preB u 0 p := by
  rw [Bool.eq_iff_iff, decide_eq_true_iff]
  constructor
  · rintro rfl
    unfold preB Lib.hasPrefix
    rw [List.isPrefixOf_iff_prefix, Lib.extract_to_end, Lib.extract_data]
    simp only [List.drop_zero]
    exact List.take_prefix _ _
  · intro hq
    have := ext_of_pre hq
    rw [hp] at this
    exact this
theorem size_two {p : ByteArray} (h : p ∈ twoL) : p.size = 2 := by
  simp only [twoL, List.mem_cons, List.not_mem_nil, or_false] at h
  rcases h with rfl | rfl | rfl | rfl | rfl | rfl | rfl <;> rfl
theorem pre_short {u p : ByteArray} (hp : p.size = 2) (h : ¬ 1 < u.size) : preB u 0 p = false := by
  cases hq : preB u 0 p
  · rfl
  · have := ext_of_pre hq
    have e := congrArg ByteArray.size this
    rw [hp] at e
    simp at e
    omega

set_option maxRecDepth 100000 in
set_option maxHeartbeats 4000000 in
theorem rsign_any (u : ByteArray) (hs : u.size ≤ 65536) (w : World) : Calls Tryz.prog 71 #[.string u] w fun e w' => e = .returned (.string (u.extract 0 (signL u 0))) ∧ KB F0 w w' := by
  obtain ⟨w0, rfl⟩ : ∃ w0, w0 = w := ⟨_, rfl⟩
  obtain ⟨R, hR⟩ : ∃ R, R = u.extract 0 (signL u 0) := ⟨_, rfl⟩
  rw [← hR]
  have HR := Lib.hid hR
  clear hR
  go_enter Tryz.func71, Tryz.ntmps71
  go_wp2_with (first | refine build_row WL7 rfl 112 _ rfl (by kernel_rfl) ?_ | refine wpList_store_row rfl 112 _ _ rfl _ WL7 rfl rfl 112 _ (alloc_new _ _) (by kernel_rfl) (by kernel_rfl) (by kernel_rfl) ?_)
  rw [alloc_setRow]
  obtain ⟨W3, hW3⟩ : ∃ W3, W3 = w0.alloc (.cells WL7 112) := ⟨_, rfl⟩
  rw [← hW3]
  have k3 : KB F0 w0 W3 := by rw [hW3]; exact (KB.refl _ _).alloc _
  have h3 : W3.heap[w0.heap.size]? = some (.cells WL7 112 (0, 0)) := by rw [hW3]; exact alloc_new _ _
  have H3 := Lib.hid (And.intro k3 h3)
  clear hW3 k3 h3
  go_loopw [4] (fun jv wr => ∃ j n : Nat, j ≤ 7 ∧ jv = .int .i64 j ∧ wr = W3.drewN n ∧ Hid (∀ q, q < j → preB u 0 (twoL.getD q ByteArray.empty) = false)) (fun jv _ => 7 - (intOf jv).toNat)
  case atStart => exact ⟨0, 0, by omega, rfl, rfl, Lib.hid (fun q h => by omega)⟩
  case round =>
    obtain ⟨j, n, hj, rfl, rfl, hno⟩ := hrel
    by_cases hlt : j < 7
    · have hL : j < twoL.length := hlt
      have cs : W3.cell? ⟨w0.heap.size, j, none⟩ = some (.string (twoL.getD j ByteArray.empty)) := by
        rw [blk_cell H3.out.2 j, WL7]
        simp [List.getD_eq_getElem?_getD, hL]
      have d1 : decide ((j : Int) < 7) = true := decide_eq_true (by omega)
      have i2 : (j : Int) < 7 := by omega
      have hpm := getD_memB hL
      obtain ⟨p, hp⟩ : ∃ p, p = twoL.getD j ByteArray.empty := ⟨_, rfl⟩
      rw [← hp] at cs hpm
      have HP := Lib.hid (And.intro hp hpm)
      clear hp hL hpm
      have hN : preB u 0 p = false → Hid (∀ q, q < j + 1 → preB u 0 (twoL.getD q ByteArray.empty) = false) := fun he => Lib.hid (fun q h => by
        rcases Nat.lt_or_eq_of_le (Nat.lt_succ_iff.1 h) with h | rfl
        · exact hno.out q h
        · rw [← HP.out.1]; exact he)
      by_cases h1 : 1 < u.size
      · have d2 : decide ((1 : Int) < (u.size : Int)) = true := decide_eq_true (by omega)
        have i1 : (2 : Int) ≤ (u.size : Int) := by omega
        have tb : ((u.extract 0 2).toList == p.toList) = preB u 0 p := by rw [tl_beq]; exact ext0_pre (size_two HP.out.2) h1
        obtain ⟨b, hb⟩ : ∃ b, b = preB u 0 p := ⟨_, rfl⟩
        rw [← hb] at tb
        have HB := Lib.hid hb
        have HN' := Lib.hid hN
        clear hb hno hN
        cases b
        case true =>
          have HE : Hid (R = p) := Lib.hid (by
            have hz := two_hit HP.out.2 HB.out.symm
            have := ext_of_pre HB.out.symm
            rw [hz.2, Nat.zero_add] at this
            rw [HR.out, hz.1]; exact this)
          go_wp2_with fail
          refine wp_region_text 11 GQ (kindV []) (by kernel_rfl) (by kernel_rfl) GQ.trans GQ.refl (GQ.start _) (kindV_mono _) ?_
          simp only [List.take_succ_cons, List.take_zero, List.drop_succ_cons, List.drop_zero]
          iterate 11 (refine rvc_det (by kernel_rfl) rfl (by intro w hG hH; obtain ⟨n, rfl⟩ := hG; go_simp; first | done | with_reducible rfl) ?_; simp only [Act.put, List.setIfInBounds_toArray, List.set_cons_zero, List.set_cons_succ])
          refine rvc_nil (fun w hG hH => ?_)
          obtain ⟨n, rfl⟩ := hG
          clear hH
          go_wp2
          (try simp only [Exit.inBlock, Exit.then])
          refine bodyPost_ret (results_tmp rfl _ _ _) rfl ?_
          exact ⟨ret_eq (by rw [HE.out]; rfl), by have := H3.out.1; first | exact this.drewN _ | exact (this.drewN _).drewN _⟩
        case false =>
          have HN := HN'.out HB.out.symm
          go_wp2_with fail
          refine wp_region_text 11 GQ (kindV []) (by kernel_rfl) (by kernel_rfl) GQ.trans GQ.refl (GQ.start _) (kindV_mono _) ?_
          simp only [List.take_succ_cons, List.take_zero, List.drop_succ_cons, List.drop_zero]
          iterate 11 (refine rvc_det (by kernel_rfl) rfl (by intro w hG hH; obtain ⟨n, rfl⟩ := hG; go_simp; first | done | with_reducible rfl) ?_; simp only [Act.put, List.setIfInBounds_toArray, List.set_cons_zero, List.set_cons_succ])
          refine rvc_nil (fun w hG hH => ?_)
          obtain ⟨n, rfl⟩ := hG
          clear hH
          go_wp2
          go_roundw
          case rel => exact ⟨j + 1, _, by omega, by go_num, by first | rfl | (rw [drewN_drewN]), HN⟩
          case measure => simp [intOf]; omega
      · have d2 : decide ((1 : Int) < (u.size : Int)) = false := decide_eq_false (by omega)
        have HN := hN (pre_short (size_two HP.out.2) h1)
        clear hno hN
        go_wp2_with fail
        refine wp_region_text 11 GQ (kindV []) (by kernel_rfl) (by kernel_rfl) GQ.trans GQ.refl (GQ.start _) (kindV_mono _) ?_
        simp only [List.take_succ_cons, List.take_zero, List.drop_succ_cons, List.drop_zero]
        iterate 4 (refine rvc_det (by kernel_rfl) rfl (by intro w hG hH; obtain ⟨n, rfl⟩ := hG; go_simp; first | done | with_reducible rfl) ?_; simp only [Act.put, List.setIfInBounds_toArray, List.set_cons_zero, List.set_cons_succ])
        iterate 6 (refine rvc_skip (by kernel_rfl) ?_; simp only [Act.put, List.setIfInBounds_toArray, List.set_cons_zero, List.set_cons_succ])
        refine rvc_det (by kernel_rfl) rfl (by intro w hG hH; obtain ⟨n, rfl⟩ := hG; go_simp; first | done | with_reducible rfl) ?_
        simp only [Act.put, List.setIfInBounds_toArray, List.set_cons_zero, List.set_cons_succ]
        refine rvc_nil (fun w hG hH => ?_)
        obtain ⟨n, rfl⟩ := hG
        clear hH
        go_wp2
        go_roundw
        case rel => exact ⟨j + 1, _, by omega, by go_num, by first | rfl | (rw [drewN_drewN]), HN⟩
        case measure => simp [intOf]; omega
    · obtain rfl : j = 7 := by omega
      have H2 := Lib.hid (all_of_getD (L := twoL) (P := fun p => preB u 0 p = false) (fun q h => hno.out q h))
      have k4 := Lib.hid (H3.out.1.drewN n)
      obtain ⟨W4, hW4⟩ : ∃ W4, W4 = W3.drewN n := ⟨_, rfl⟩
      rw [← hW4] at k4
      clear hno
      go_wp2_with fail
      rw [← hW4]
      (try rw [show ((7 : Nat) : Int) = 7 from rfl])
      clear hW4
      generalize hT : (⟨#[123, 125, 40, 41, 60, 62, 44, 59, 58, 46, 38, 42, 33, 61, 43, 45, 47, 37]⟩ : ByteArray) = T
      have hTs : T.size = 18 := by rw [← hT]; rfl
      have hTo := Lib.hid (show T = oneT from hT.symm)
      clear hT
      go_loopw [6] (fun jv wr => ∃ j n : Nat, j ≤ 18 ∧ jv = .int .i64 j ∧ wr = W4.drewN n ∧ Hid (∀ q, q < j → preB u 0 (oneL.getD q ByteArray.empty) = false)) (fun jv _ => 18 - (intOf jv).toNat)
      case atStart => exact ⟨0, 0, by omega, rfl, rfl, Lib.hid (fun q h => by omega)⟩
      case round =>
        obtain ⟨j, n, hj, rfl, rfl, hno⟩ := hrel
        by_cases hlt : j < 18
        · have hL : j < oneL.length := hlt
          have i0 : j < T.size := by omega
          have i2 : (j : Int) < (T.size : Int) := by omega
          have d1 : decide ((j : Int) < (T.size : Int)) = true := decide_eq_true i2
          have hpm := getD_memB hL
          have hbT := byteAt_eq T j i0
          obtain ⟨c, hc⟩ : ∃ c : UInt8, c = oneT.data.toList.getD j 0 := ⟨_, rfl⟩
          have hcT : byteAt T j = c.toNat := by rw [hc, hTo.out]; rfl
          have hp1 : oneL.getD j ByteArray.empty = ⟨#[c]⟩ := by rw [hc]; exact oneT_at j hlt
          rw [hcT] at hbT
          rw [hp1] at hpm
          have HP := Lib.hid (And.intro hp1 hpm)
          clear hL hpm hp1 hc hcT
          have hN : preB u 0 ⟨#[c]⟩ = false → Hid (∀ q, q < j + 1 → preB u 0 (oneL.getD q ByteArray.empty) = false) := fun he => Lib.hid (fun q h => by
            rcases Nat.lt_or_eq_of_le (Nat.lt_succ_iff.1 h) with h | rfl
            · exact hno.out q h
            · rw [HP.out.1]; exact he)
          obtain ⟨b, hb⟩ : ∃ b, b = preB u 0 ⟨#[c]⟩ := ⟨_, rfl⟩
          have hb2 := preB_one u 0 c
          rw [← hb] at hb2 hN
          obtain ⟨cn, hcn⟩ : ∃ cn, cn = c.toNat := ⟨_, rfl⟩
          rw [← hcn] at hbT hb2
          have HB := Lib.hid hb
          have HN' := Lib.hid hN
          clear hb hno hN hcn
          by_cases h1 : 0 < u.size
          · have i1 : (0 : Int) < (u.size : Int) := by omega
            have i3 : (1 : Int) ≤ (u.size : Int) := by omega
            have hu0 := byteAt_eq u 0 h1
            rw [decide_eq_true h1, Bool.true_and] at hb2
            have te : (u.toList == []) = false := by
              rw [toList_beq]; exact decide_eq_false (fun h => by rw [h] at h1; exact absurd h1 (by decide))
            have tb : ((byteAt u 0 : Int) == (cn : Int)) = b := by rw [hb2, Bool.eq_iff_iff, decide_eq_true_iff]; simp; omega
            clear hb2
            cases b
            case true =>
              have HE : Hid (R = u.extract 0 1) := Lib.hid (by rw [HR.out, (one_hit H2.out HP.out.2 HB.out.symm).1])
              go_wp2_with fail
              refine wp_region_text 10 GQ (kindV []) (by kernel_rfl) (by kernel_rfl) GQ.trans GQ.refl (GQ.start _) (kindV_mono _) ?_
              simp only [List.take_succ_cons, List.take_zero, List.drop_succ_cons, List.drop_zero]
              iterate 10 (refine rvc_det (by kernel_rfl) rfl (by intro w hG hH; obtain ⟨n, rfl⟩ := hG; go_simp; first | done | with_reducible rfl) ?_; simp only [Act.put, List.setIfInBounds_toArray, List.set_cons_zero, List.set_cons_succ])
              refine rvc_nil (fun w hG hH => ?_)
              obtain ⟨n, rfl⟩ := hG
              clear hH
              go_wp2
              (try simp only [Exit.inBlock, Exit.then])
              refine bodyPost_ret (results_tmp rfl _ _ _) rfl ?_
              exact ⟨ret_eq (by rw [HE.out]; rfl), by have := k4.out; first | exact this.drewN _ | exact (this.drewN _).drewN _⟩
            case false =>
              have HN := HN'.out rfl
              go_wp2_with fail
              refine wp_region_text 10 GQ (kindV []) (by kernel_rfl) (by kernel_rfl) GQ.trans GQ.refl (GQ.start _) (kindV_mono _) ?_
              simp only [List.take_succ_cons, List.take_zero, List.drop_succ_cons, List.drop_zero]
              iterate 10 (refine rvc_det (by kernel_rfl) rfl (by intro w hG hH; obtain ⟨n, rfl⟩ := hG; go_simp; first | done | with_reducible rfl) ?_; simp only [Act.put, List.setIfInBounds_toArray, List.set_cons_zero, List.set_cons_succ])
              refine rvc_nil (fun w hG hH => ?_)
              obtain ⟨n, rfl⟩ := hG
              clear hH
              go_wp2
              first | exact ⟨⟨j + 1, _, by omega, by go_num, rfl, HN⟩, by simp [intOf]; omega⟩ | (go_roundw; case rel => exact ⟨j + 1, _, by omega, by go_num, by first | rfl | (rw [drewN_drewN]), HN⟩; case measure => simp [intOf]; omega)
          · have te : (u.toList == []) = true := by
              rw [toList_beq]; exact decide_eq_true (by apply ByteArray.ext; apply Array.eq_empty_of_size_eq_zero; show u.size = 0; omega)
            rw [decide_eq_false h1, Bool.false_and] at hb2
            have HN := HN'.out hb2
            clear hb2
            go_wp2_with fail
            refine wp_region_text 10 GQ (kindV []) (by kernel_rfl) (by kernel_rfl) GQ.trans GQ.refl (GQ.start _) (kindV_mono _) ?_
            simp only [List.take_succ_cons, List.take_zero, List.drop_succ_cons, List.drop_zero]
            iterate 3 (refine rvc_det (by kernel_rfl) rfl (by intro w hG hH; obtain ⟨n, rfl⟩ := hG; go_simp; first | done | with_reducible rfl) ?_; simp only [Act.put, List.setIfInBounds_toArray, List.set_cons_zero, List.set_cons_succ])
            iterate 6 (refine rvc_skip (by kernel_rfl) ?_; simp only [Act.put, List.setIfInBounds_toArray, List.set_cons_zero, List.set_cons_succ])
            refine rvc_det (by kernel_rfl) rfl (by intro w hG hH; obtain ⟨n, rfl⟩ := hG; go_simp; first | done | with_reducible rfl) ?_
            simp only [Act.put, List.setIfInBounds_toArray, List.set_cons_zero, List.set_cons_succ]
            refine rvc_nil (fun w hG hH => ?_)
            obtain ⟨n, rfl⟩ := hG
            clear hH
            go_wp2
            first | exact ⟨⟨j + 1, _, by omega, by go_num, rfl, HN⟩, by simp [intOf]; omega⟩ | (go_roundw; case rel => exact ⟨j + 1, _, by omega, by go_num, by first | rfl | (rw [drewN_drewN]), HN⟩; case measure => simp [intOf]; omega)
        · obtain rfl : j = 18 := by omega
          have d1 : decide ((18 : Int) < (T.size : Int)) = false := decide_eq_false (by omega)
          have hz : signL u 0 = 0 := sign_none H2.out (all_of_getD (L := oneL) (P := fun p => preB u 0 p = false) (fun q h => hno.out q h))
          have HE : Hid (R = ⟨#[]⟩) := Lib.hid (by rw [HR.out, hz]; apply ByteArray.ext; simp)
          clear hno hz
          go_wp2
          (try simp only [Exit.inBlock, Exit.then])
          refine bodyPost_ret (results_tmp rfl _ _ _) rfl ?_
          exact ⟨ret_eq (by rw [HE.out]; rfl), by have := k4.out; first | exact this.drewN _ | exact (this.drewN _).drewN _⟩
end Go.Proofs.YtcbifoimfhfccaaGreatDoor

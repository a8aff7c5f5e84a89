/- The lexer's 'sign'. -/
import Derived.Test.YtcbifoimfhfccaaGreatDoorLexG
import Derived.WalkMore
namespace Go.Proofs.YtcbifoimfhfccaaGreatDoor
open Go.RowKit

theorem LX.kb {w w' : World} {b : Nat} {s : ByteArray} {i : Nat} {st : Bool} (h : LX w b s i st) (hk : KB F0 w w') : LX w' b s i st := hk.heap (fun x => x) h
/-- A row of texts lies in block g. -/
def SL (w : World) (g : Nat) (L : List ByteArray) : Prop := w.heap[g]? = some (.cells (L.map Value.string).toArray 9 (0, 0))
theorem SL.kb {w w' : World} {g : Nat} {L : List ByteArray} (h : SL w g L) (hk : KB F0 w w') : SL w' g L := hk.heap (fun x => x) h
theorem SL.cell {w : World} {g : Nat} {L : List ByteArray} (h : SL w g L) {k : Nat} (hk : k < L.length) : w.cell? ⟨g, k, none⟩ = some (.string (L.getD k ByteArray.empty)) := by
  rw [blk_cell h k]
  simp [List.getD_eq_getElem?_getD, hk]
theorem getD_memB {L : List ByteArray} {k : Nat} (h : k < L.length) : L.getD k ByteArray.empty ∈ L := by
  rw [List.getD_eq_getElem?_getD, List.getElem?_eq_getElem h]; exact List.getElem_mem h
theorem all_of_getD {L : List ByteArray} {P : ByteArray → Prop} (h : ∀ k, k < L.length → P (L.getD k ByteArray.empty)) : ∀ p ∈ L, P p := by
  intro p hp
  obtain ⟨k, hk, rfl⟩ := List.getElem_of_mem hp
  have := h k hk
  rwa [List.getD_eq_getElem?_getD, List.getElem?_eq_getElem hk] at this
theorem arr2_at (x y : Value) : ∀ w, (Instr.index 102 (.agg #[x, y]) (.int .i64 0)).run Tryz.prog w = .ok x w ∧ (Instr.index 102 (.agg #[x, y]) (.int .i64 1)).run Tryz.prog w = .ok y w := fun w => ⟨by kernel_rfl, by kernel_rfl⟩
theorem chars_one : (Lib.charsB ⟨#[123, 125, 40, 41, 60, 62, 44, 59, 58, 46, 38, 42, 33, 61, 43, 45, 47, 37]⟩) = oneL := by decide +kernel
theorem split_any (W : World) : Calls Tryz.prog 80 #[.string ⟨#[123, 125, 40, 41, 60, 62, 44, 59, 58, 46, 38, 42, 33, 61, 43, 45, 47, 37]⟩, .string ⟨#[]⟩] W fun e w' => ∃ g, e = .returned (.slice (some ⟨g, 0, none⟩) 18 18) ∧ SL w' g oneL ∧ KB F0 W w' := by
  refine (Tryz.strings_Split_chars ⟨#[123, 125, 40, 41, 60, 62, 44, 59, 58, 46, 38, 42, 33, 61, 43, 45, 47, 37]⟩ ⟨#[]⟩ W rfl (by decide) ?_).mono ?_
  · intro j c hj
    have hm := List.mem_of_getElem? hj
    simp at hm
    rcases hm with rfl | rfl | rfl | rfl | rfl | rfl | rfl | rfl | rfl | rfl | rfl | rfl | rfl | rfl | rfl | rfl | rfl | rfl <;> decide
  · rintro e w' ⟨rfl, rfl⟩
    rw [chars_one]
    exact ⟨_, rfl, alloc_new _ _, ((KB.refl F0 W).alloc _).alloc _⟩

set_option maxRecDepth 100000 in
set_option maxHeartbeats 4000000 in
theorem sign_any (b : Nat) (s : ByteArray) (i : Nat) (hi : i < s.size) (hs : s.size ≤ 65536) (w : World) (h : LX w b s i false) :
    Calls Tryz.prog 57 #[.pointer (some ⟨b, 0, none⟩)] w fun e w' => e = .returned (.string (if signL s i = 0 then ⟨#[]⟩ else s.extract i (i + signL s i))) ∧
      LX w' b s (if signL s i = 0 ∧ byteAt s i = 124 then i + 1 else i + signL s i) (decide (signL s i = 0)) ∧ KB (SB b) w w' := by
  obtain ⟨w0, rfl⟩ : ∃ w0, w0 = w := ⟨_, rfl⟩
  obtain ⟨V, hV⟩ : ∃ V, V = (if signL s i = 0 then (⟨#[]⟩ : ByteArray) else s.extract i (i + signL s i)) := ⟨_, rfl⟩
  obtain ⟨E, hE⟩ : ∃ E, E = (if signL s i = 0 ∧ byteAt s i = 124 then i + 1 else i + signL s i) := ⟨_, rfl⟩
  obtain ⟨ST, hST⟩ : ∃ ST, ST = decide (signL s i = 0) := ⟨_, rfl⟩
  rw [← hV, ← hE, ← hST]
  have HR := Lib.hid (And.intro hV (And.intro hE hST))
  have H := Lib.hid h
  have hile : i ≤ s.size := by omega
  clear h hV hE hST
  go_enter Tryz.func57, Tryz.ntmps57
  go_wp2_with fail
  go_step3
  go_wp2_with fail
  refine (split_any _).mono ?_
  rintro e W2 ⟨g, rfl, hsl, k2⟩
  have kA : KB F0 w0 (w0.alloc (.cells (twoL.map Value.string).toArray 9)) := (KB.refl _ _).alloc _
  have hS0 : SL W2 w0.heap.size twoL := k2.heap (fun x => x) (alloc_new w0 (.cells (twoL.map Value.string).toArray 9))
  have k02 : KB F0 w0 W2 := kA.trans k2
  have HW := Lib.hid (And.intro hS0 (And.intro hsl k02))
  clear hS0 hsl k02 kA k2
  go_wp2_with fail
  go_step3
  go_wp2_with fail
  obtain ⟨W3, hW3⟩ : ∃ W3, W3 = W2.alloc (.cells #[.slice (some ⟨w0.heap.size, 0, none⟩) 7 7, .slice (some ⟨g, 0, none⟩) 18 18] 102) := ⟨_, rfl⟩
  rw [← hW3]
  have k3 : KB F0 W2 W3 := by rw [hW3]; exact (KB.refl _ _).alloc _
  have H3 := Lib.hid (And.intro (HW.out.1.kb k3) (And.intro (HW.out.2.1.kb k3) (And.intro (H.out.kb (HW.out.2.2.trans k3)) (HW.out.2.2.trans k3))))
  clear hW3 k3
  go_loopw [12] (fun jv wr => ∃ j : Nat, j ≤ 2 ∧ jv = .int .i64 j ∧ KB F0 W3 wr ∧ Hid ((0 < j → ∀ p ∈ twoL, preB s i p = false) ∧ (1 < j → ∀ p ∈ oneL, preB s i p = false))) (fun jv _ => 2 - (intOf jv).toNat)
  case atStart => exact ⟨0, by omega, rfl, KB.refl _ _, Lib.hid ⟨fun h => absurd h (by omega), fun h => absurd h (by omega)⟩⟩
  case round =>
    obtain ⟨j, hj, rfl, hkb, hno⟩ := hrel
    have hkb0 := Lib.hid hkb
    obtain ⟨Wo, rfl⟩ : ∃ Wo, Wo = wr := ⟨_, rfl⟩
    clear hkb
    obtain rfl | rfl | rfl : j = 0 ∨ j = 1 ∨ j = 2 := by omega
    · rw [show (((0 : Nat) : Int)) = 0 from rfl]
      have ix0 := fun w => (arr2_at (.slice (some ⟨w0.heap.size, 0, none⟩) 7 7) (.slice (some ⟨g, 0, none⟩) 18 18) w).1
      go_wp2_with fail
      go_loopw [17] (fun kv wr => ∃ k : Nat, k ≤ 7 ∧ kv = .int .i64 k ∧ KB F0 Wo wr ∧ Hid (∀ q, q < k → preB s i (twoL.getD q ByteArray.empty) = false)) (fun kv _ => 7 - (intOf kv).toNat)
      case atStart => exact ⟨0, by omega, rfl, KB.refl _ _, Lib.hid (fun q h => by omega)⟩
      case round =>
        obtain ⟨k, hk, rfl, hkb, hnk⟩ := hrel
        have hkk := hkb0.out.trans hkb
        by_cases hlt : k < 7
        · have hL : k < twoL.length := hlt
          have hx := H3.out.2.2.1.kb hkk
          have c0 : wr.cell? ⟨b, 0, none⟩ = some (.string s) := blk_cell hx 0
          have c1 : wr.cell? ⟨b, 1, none⟩ = some (.int .i64 i) := blk_cell hx 1
          have f1 : wr.frozen? ⟨b, 1, none⟩ = false := blk_frozen hx 1
          have cs := (H3.out.1.kb hkk).cell hL
          have hpm := getD_memB hL
          obtain ⟨p, hp⟩ : ∃ p, p = twoL.getD k ByteArray.empty := ⟨_, rfl⟩
          rw [← hp] at cs hpm
          have HP := Lib.hid (fun (W : World) => Tryz.strings_HasPrefix (s.extract i s.size) p W)
          obtain ⟨q, hq⟩ : ∃ q, q = preB s i p := ⟨_, rfl⟩
          have HQ := Lib.hid (And.intro hq hp)
          have HPM := Lib.hid hpm
          have HX := Lib.hid (And.intro hx (And.intro hkb hkk))
          clear hx hq hp hpm hkb hkk
          go_wp2_with fail
          refine wp_region_rv 12 GQ (kindV [(10, fun v => v = .bool q)]) (by kernel_rfl) (by kernel_rfl) GQ.trans GQ.refl (GQ.start _) (kindV_mono _) ?_
          simp only [List.take_succ_cons, List.take_zero, List.drop_succ_cons, List.drop_zero]
          iterate 10 (refine rv_det (by kernel_rfl) rfl (by intro w hG hH; obtain ⟨n, rfl⟩ := hG; go_simp; first | done | with_reducible rfl) ?_; simp only [Act.put, List.setIfInBounds_toArray, List.set_cons_zero, List.set_cons_succ])
          refine rv_rel (by kernel_rfl) rfl ⟨_, rfl⟩ (by
            intro w hG hH; obtain ⟨n, rfl⟩ := hG
            refine opVal_call (by go_simp; first | done | exact ⟨⟨rfl, rfl⟩, rfl⟩) ?_
            refine ((HP.out _).mono (fun e w' h => (by rw [show Lib.hasPrefix (s.extract i s.size).data.toList p.data.toList = q from HQ.out.1.symm] at h; exact h : e = .returned (.bool q) ∧ w' = _))).mono ?_
            rintro e w' ⟨rfl, hq⟩
            exact ⟨_, rfl, rfl, by (first | (obtain ⟨nq, rfl⟩ := hq) | subst hq); (try simp only [drew_eq1, drewN_drewN]); first | exact ⟨0, rfl⟩ | exact ⟨_, rfl⟩ | exact gq_le (by omega), trivial⟩) ?_
          rintro v rfl
          simp only [Act.put, List.setIfInBounds_toArray, List.set_cons_zero, List.set_cons_succ]
          refine rv_det (by kernel_rfl) rfl (by intro w hG hH; obtain ⟨n, rfl⟩ := hG; go_simp; first | done | with_reducible rfl) ?_
          simp only [Act.put, List.setIfInBounds_toArray, List.set_cons_zero, List.set_cons_succ]
          refine rv_nil (fun w hG hH => ?_)
          obtain ⟨n, rfl⟩ := hG
          clear hH
          cases q
          case true =>
            have hz := two_hit HPM.out HQ.out.1.symm
            have HE : Hid (V = p ∧ E = i + 2 ∧ ST = false) := Lib.hid ⟨by rw [HR.out.1, hz.1, if_neg (by omega)]; have := ext_of_pre HQ.out.1.symm; rw [hz.2] at this; exact this, by rw [HR.out.2.1, hz.1, if_neg (by omega)], by rw [HR.out.2.2, hz.1]; rfl⟩
            have hps : p.size = 2 := hz.2
            have w1 : IntKind.i64.wrap ((i : Int) + 2) = (i : Int) + 2 := w64 (by omega) (by omega)
            clear hz
            go_wp2
            (try simp only [Exit.inBlock, Exit.then, Exit.noGoto_ret])
            refine bodyPost_ret (results_tmp rfl _ _ _) rfl ?_
            exact ⟨ret_eq (by rw [HE.out.1]; rfl), by rw [HE.out.2.1, HE.out.2.2]; have := HX.out.1.go (i + 2); push_cast at this; exact this, (((H3.out.2.2.2.trans HX.out.2.2).mono (S' := SB b) (fun _ _ x => x.elim)).drewN _).setCell (p := ⟨b, 1, none⟩) (fun _ => rfl) _⟩
          case false =>
            have HN : Hid (∀ q, q < k + 1 → preB s i (twoL.getD q ByteArray.empty) = false) := Lib.hid (fun q h => by
              rcases Nat.lt_or_eq_of_le (Nat.lt_succ_iff.1 h) with h | rfl
              · exact hnk.out q h
              · rw [← HQ.out.2]; exact HQ.out.1.symm)
            have hkn := Lib.hid (HX.out.2.1.drewN n)
            clear hnk
            go_wp2
            go_roundw
            case rel => exact ⟨k + 1, by omega, by go_num, HX.out.2.1.drewN _, HN.out⟩
            case measure => simp [intOf]; omega
        · obtain rfl : k = 7 := by omega
          have HN := Lib.hid (all_of_getD (L := twoL) (P := fun p => preB s i p = false) (fun q h => hnk.out q h))
          have HKK := Lib.hid hkk
          clear hnk hkb hkk
          go_wp2
          go_roundw
          case rel => exact ⟨1, by omega, by go_num, HKK.out, Lib.hid ⟨fun _ => HN.out, fun h => absurd h (by omega)⟩⟩
          case measure => simp [intOf]
    · rw [show (((1 : Nat) : Int)) = 1 from rfl]
      have ix1 := fun w => (arr2_at (.slice (some ⟨w0.heap.size, 0, none⟩) 7 7) (.slice (some ⟨g, 0, none⟩) 18 18) w).2
      go_wp2_with fail
      go_loopw [17] (fun kv wr => ∃ k : Nat, k ≤ 18 ∧ kv = .int .i64 k ∧ KB F0 Wo wr ∧ Hid (∀ q, q < k → preB s i (oneL.getD q ByteArray.empty) = false)) (fun kv _ => 18 - (intOf kv).toNat)
      case atStart => exact ⟨0, by omega, rfl, KB.refl _ _, Lib.hid (fun q h => by omega)⟩
      case round =>
        obtain ⟨k, hk, rfl, hkb, hnk⟩ := hrel
        have hkk := hkb0.out.trans hkb
        by_cases hlt : k < 18
        · have hL : k < oneL.length := hlt
          have hx := H3.out.2.2.1.kb hkk
          have c0 : wr.cell? ⟨b, 0, none⟩ = some (.string s) := blk_cell hx 0
          have c1 : wr.cell? ⟨b, 1, none⟩ = some (.int .i64 i) := blk_cell hx 1
          have f1 : wr.frozen? ⟨b, 1, none⟩ = false := blk_frozen hx 1
          have cs := (H3.out.2.1.kb hkk).cell hL
          have hpm := getD_memB hL
          obtain ⟨p, hp⟩ : ∃ p, p = oneL.getD k ByteArray.empty := ⟨_, rfl⟩
          rw [← hp] at cs hpm
          have HP := Lib.hid (fun (W : World) => Tryz.strings_HasPrefix (s.extract i s.size) p W)
          obtain ⟨q, hq⟩ : ∃ q, q = preB s i p := ⟨_, rfl⟩
          have HQ := Lib.hid (And.intro hq hp)
          have HPM := Lib.hid hpm
          have HX := Lib.hid (And.intro hx (And.intro hkb hkk))
          clear hx hq hp hpm hkb hkk
          go_wp2_with fail
          refine wp_region_rv 12 GQ (kindV [(10, fun v => v = .bool q)]) (by kernel_rfl) (by kernel_rfl) GQ.trans GQ.refl (GQ.start _) (kindV_mono _) ?_
          simp only [List.take_succ_cons, List.take_zero, List.drop_succ_cons, List.drop_zero]
          iterate 10 (refine rv_det (by kernel_rfl) rfl (by intro w hG hH; obtain ⟨n, rfl⟩ := hG; go_simp; first | done | with_reducible rfl) ?_; simp only [Act.put, List.setIfInBounds_toArray, List.set_cons_zero, List.set_cons_succ])
          refine rv_rel (by kernel_rfl) rfl ⟨_, rfl⟩ (by
            intro w hG hH; obtain ⟨n, rfl⟩ := hG
            refine opVal_call (by go_simp; first | done | exact ⟨⟨rfl, rfl⟩, rfl⟩) ?_
            refine ((HP.out _).mono (fun e w' h => (by rw [show Lib.hasPrefix (s.extract i s.size).data.toList p.data.toList = q from HQ.out.1.symm] at h; exact h : e = .returned (.bool q) ∧ w' = _))).mono ?_
            rintro e w' ⟨rfl, hq⟩
            exact ⟨_, rfl, rfl, by (first | (obtain ⟨nq, rfl⟩ := hq) | subst hq); (try simp only [drew_eq1, drewN_drewN]); first | exact ⟨0, rfl⟩ | exact ⟨_, rfl⟩ | exact gq_le (by omega), trivial⟩) ?_
          rintro v rfl
          simp only [Act.put, List.setIfInBounds_toArray, List.set_cons_zero, List.set_cons_succ]
          refine rv_det (by kernel_rfl) rfl (by intro w hG hH; obtain ⟨n, rfl⟩ := hG; go_simp; first | done | with_reducible rfl) ?_
          simp only [Act.put, List.setIfInBounds_toArray, List.set_cons_zero, List.set_cons_succ]
          refine rv_nil (fun w hG hH => ?_)
          obtain ⟨n, rfl⟩ := hG
          clear hH
          cases q
          case true =>
            have hz := one_hit (hno.out.1 (by omega)) HPM.out HQ.out.1.symm
            have HE : Hid (V = p ∧ E = i + 1 ∧ ST = false) := Lib.hid ⟨by rw [HR.out.1, hz.1, if_neg (by omega)]; have := ext_of_pre HQ.out.1.symm; rw [hz.2] at this; exact this, by rw [HR.out.2.1, hz.1, if_neg (by omega)], by rw [HR.out.2.2, hz.1]; rfl⟩
            have hps : p.size = 1 := hz.2
            have w1 : IntKind.i64.wrap ((i : Int) + 1) = (i : Int) + 1 := w64 (by omega) (by omega)
            clear hz
            go_wp2
            (try simp only [Exit.inBlock, Exit.then, Exit.noGoto_ret])
            refine bodyPost_ret (results_tmp rfl _ _ _) rfl ?_
            exact ⟨ret_eq (by rw [HE.out.1]; rfl), by rw [HE.out.2.1, HE.out.2.2]; have := HX.out.1.go (i + 1); push_cast at this; exact this, (((H3.out.2.2.2.trans HX.out.2.2).mono (S' := SB b) (fun _ _ x => x.elim)).drewN _).setCell (p := ⟨b, 1, none⟩) (fun _ => rfl) _⟩
          case false =>
            have HN : Hid (∀ q, q < k + 1 → preB s i (oneL.getD q ByteArray.empty) = false) := Lib.hid (fun q h => by
              rcases Nat.lt_or_eq_of_le (Nat.lt_succ_iff.1 h) with h | rfl
              · exact hnk.out q h
              · rw [← HQ.out.2]; exact HQ.out.1.symm)
            have hkn := Lib.hid (HX.out.2.1.drewN n)
            clear hnk
            go_wp2
            go_roundw
            case rel => exact ⟨k + 1, by omega, by go_num, HX.out.2.1.drewN _, HN.out⟩
            case measure => simp [intOf]; omega
        · obtain rfl : k = 18 := by omega
          have HN := Lib.hid (all_of_getD (L := oneL) (P := fun p => preB s i p = false) (fun q h => hnk.out q h))
          have HKK := Lib.hid hkk
          clear hnk hkb hkk
          go_wp2
          go_roundw
          case rel => exact ⟨2, by omega, by go_num, HKK.out, Lib.hid ⟨fun _ => hno.out.1 (by omega), fun _ => HN.out⟩⟩
          case measure => simp [intOf]
    · rw [show (((2 : Nat) : Int)) = 2 from rfl]
      have hz : signL s i = 0 := sign_none (hno.out.1 (by omega)) (hno.out.2 (by omega))
      have hx := H3.out.2.2.1.kb hkb0.out
      have c0 : Wo.cell? ⟨b, 0, none⟩ = some (.string s) := blk_cell hx 0
      have c1 : Wo.cell? ⟨b, 1, none⟩ = some (.int .i64 i) := blk_cell hx 1
      have c2 : Wo.cell? ⟨b, 2, none⟩ = some (.bool false) := blk_cell hx 2
      have f2 : Wo.frozen? ⟨b, 2, none⟩ = false := blk_frozen hx 2
      have hst := setCell_blk (i := 2) hx (.bool true)
      have s0 : (Wo.setCell ⟨b, 2, none⟩ (.bool true)).cell? ⟨b, 0, none⟩ = some (.string s) := blk_cell hst 0
      have s1 : (Wo.setCell ⟨b, 2, none⟩ (.bool true)).cell? ⟨b, 1, none⟩ = some (.int .i64 i) := blk_cell hst 1
      have sf1 : (Wo.setCell ⟨b, 2, none⟩ (.bool true)).frozen? ⟨b, 1, none⟩ = false := blk_frozen hst 1
      have HX := Lib.hid (And.intro (hx.stuck true) ((H3.out.2.2.2.trans hkb0.out).mono (S' := SB b) (fun _ _ x => x.elim)))
      have HP := Lib.hid (fun (W : World) => Tryz.strings_HasPrefix (s.extract i s.size) ⟨#[124]⟩ W)
      have hq := preB_one s i 124
      unfold preB at hq
      have hq2 : (decide (i < s.size) && decide (byteAt s i = (124 : UInt8).toNat)) = decide (byteAt s i = 124) := by rw [decide_eq_true hi]; rfl
      rw [hq2] at hq
      obtain ⟨q, hqe⟩ : ∃ q, q = decide (byteAt s i = 124) := ⟨_, rfl⟩
      rw [← hqe] at hq
      have HQ := Lib.hid (And.intro hq hqe)
      have HZ := Lib.hid hz
      clear hx hst hz hq hq2 hqe hno
      go_wp2_with fail
      refine wp_region_rv 10 GQ (kindV [(9, fun v => v = .bool q)]) (by kernel_rfl) (by kernel_rfl) GQ.trans GQ.refl (GQ.start _) (kindV_mono _) ?_
      simp only [List.take_succ_cons, List.take_zero, List.drop_succ_cons, List.drop_zero]
      iterate 9 (refine rv_det (by kernel_rfl) rfl (by intro w hG hH; obtain ⟨n, rfl⟩ := hG; go_simp; first | done | with_reducible rfl) ?_; simp only [Act.put, List.setIfInBounds_toArray, List.set_cons_zero, List.set_cons_succ])
      refine rv_rel (by kernel_rfl) rfl ⟨_, rfl⟩ (by
        intro w hG hH; obtain ⟨n, rfl⟩ := hG
        refine opVal_call (by go_simp; first | done | exact ⟨⟨rfl, rfl⟩, rfl⟩) ?_
        refine ((HP.out _).mono (fun e w' h => (by rw [HQ.out.1] at h; exact h : e = .returned (.bool q) ∧ w' = _))).mono ?_
        rintro e w' ⟨rfl, hq⟩
        exact ⟨_, rfl, rfl, by (first | (obtain ⟨nq, rfl⟩ := hq) | subst hq); (try simp only [drew_eq1, drewN_drewN]); first | exact ⟨0, rfl⟩ | exact ⟨_, rfl⟩ | exact gq_le (by omega), trivial⟩) ?_
      rintro v rfl
      simp only [Act.put, List.setIfInBounds_toArray, List.set_cons_zero, List.set_cons_succ]
      refine rv_nil (fun w hG hH => ?_)
      obtain ⟨n, rfl⟩ := hG
      clear hH
      cases q
      case true =>
        have hb : byteAt s i = 124 := of_decide_eq_true HQ.out.2.symm
        have HE : Hid (V = ⟨#[]⟩ ∧ E = i + 1 ∧ ST = true) := Lib.hid ⟨by rw [HR.out.1, HZ.out, if_pos rfl], by rw [HR.out.2.1, HZ.out, if_pos ⟨rfl, hb⟩], by rw [HR.out.2.2, HZ.out]; rfl⟩
        clear hb
        go_wp2
        (try simp only [Exit.inBlock, Exit.then, Exit.noGoto_ret])
        refine bodyPost_ret (results_tmp rfl _ _ _) rfl ?_
        exact ⟨ret_eq (by rw [HE.out.1]; rfl), by rw [HE.out.2.1, HE.out.2.2]; have := HX.out.1.go (i + 1); push_cast at this; exact this, ((HX.out.2.setCell (p := ⟨b, 2, none⟩) (fun _ => rfl) (.bool true)).drewN _).setCell (p := ⟨b, 1, none⟩) (fun _ => rfl) _⟩
      case false =>
        have hb : ¬ byteAt s i = 124 := of_decide_eq_false HQ.out.2.symm
        have HE : Hid (V = ⟨#[]⟩ ∧ E = i ∧ ST = true) := Lib.hid ⟨by rw [HR.out.1, HZ.out, if_pos rfl], by rw [HR.out.2.1, HZ.out, if_neg (fun h => hb h.2)]; rfl, by rw [HR.out.2.2, HZ.out]; rfl⟩
        clear hb
        go_wp2
        (try simp only [Exit.inBlock, Exit.then, Exit.noGoto_ret])
        refine bodyPost_ret (results_tmp rfl _ _ _) rfl ?_
        exact ⟨ret_eq (by rw [HE.out.1]; rfl), by rw [HE.out.2.1, HE.out.2.2]; exact HX.out.1, (HX.out.2.setCell (p := ⟨b, 2, none⟩) (fun _ => rfl) (.bool true)).drewN _⟩
end Go.Proofs.YtcbifoimfhfccaaGreatDoor

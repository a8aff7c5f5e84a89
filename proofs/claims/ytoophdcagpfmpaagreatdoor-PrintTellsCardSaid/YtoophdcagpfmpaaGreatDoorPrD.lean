/- print.amp, print.level. -/
import Derived.Test.YtoophdcagpfmpaaGreatDoorMg13
import Derived.Test.YtoophdcagpfmpaaGreatDoorMg03
namespace Go.Proofs.YtoophdcagpfmpaaGreatDoor
open Go.RowKit

theorem ne38 {C : ByteArray} (h : C.size ≠ 1) : (C.toList == [38]) = false := by
  rw [beq_eq_false_iff_ne]; intro e; have := congrArg List.length e
  rw [ByteArray.toList_eq] at this; simp at this; omega
theorem amp_any (life s : ByteArray) (m : Bool) (w : World) (hl : life.size ≤ 32) (hs : s.size ≤ 10000000000) :
    Calls Tryz.prog 71 #[.string life, .bool m, .string s] w fun e w' => e = .returned (.string (ampB life m s)) ∧ w = w' := by
  obtain ⟨r, hr⟩ : ∃ r, r = ampB life m s := ⟨_, rfl⟩
  have HP := Lib.hid (Tryz.strings_HasPrefix s ⟨#[38]⟩)
  rw [show Lib.hasPrefix s.data.toList (⟨#[38]⟩ : ByteArray).data.toList = hasAmp s from rfl] at HP
  rw [← hr]
  unfold ampB at hr
  by_cases h0 : life.size = 0
  · rw [if_pos h0] at hr
    have t1 : life.toList.isEmpty = true := by rw [isEmpty_size]; exact decide_eq_true h0
    clear h0 hl
    cases m
    case true =>
      obtain ⟨H, h1, h2, h3⟩ : ∃ H : ByteArray, (⟨#[38]⟩ : ByteArray) ++ ⟨#[109, 117, 116, 32]⟩ = H ∧ (H.toList == [38]) = false ∧ H.size = 5 := ⟨_, rfl, ne38 (by decide), rfl⟩
      have hc : H ++ s = r := by rw [hr, ← h1]; rfl
      have z1 : ¬ (9223372036854775807 < H.size + s.size) := by omega
      clear hr h3 hs
      go_enter Tryz.func71, Tryz.ntmps71
      go_wp2_with fail
      go_ret
      exact ⟨rfl, rfl⟩
    case false =>
      have hr1 : r = if hasAmp s = true then ⟨#[38, 32]⟩ ++ s else ⟨#[38]⟩ ++ s := hr
      generalize hasAmp s = q at HP hr1
      have z1 : ¬ (9223372036854775807 < 2 + s.size) := by omega
      have z2 : ¬ (9223372036854775807 < 1 + s.size) := by omega
      have HR := Lib.hid hr1
      clear hr hr1 hs
      cases q
      all_goals
        go_enter Tryz.func71, Tryz.ntmps71
        go_wp2_with fail
        refine HP.out w |>.mono ?_
        rintro e w' ⟨rfl, rfl⟩
        go_wp2_with fail
        go_ret
        exact ⟨ret_eq (by rw [HR.out]; rfl), rfl⟩
  · rw [if_neg h0] at hr
    have t1 : life.toList.isEmpty = false := by rw [isEmpty_size]; exact decide_eq_false h0
    obtain ⟨A, hA⟩ : ∃ A, (⟨#[39]⟩ : ByteArray) ++ life = A := ⟨_, rfl⟩
    obtain ⟨B, hB⟩ : ∃ B, A ++ ⟨#[32]⟩ = B := ⟨_, rfl⟩
    obtain ⟨C, hC⟩ : ∃ C, (⟨#[38]⟩ : ByteArray) ++ B = C := ⟨_, rfl⟩
    obtain ⟨D, hD⟩ : ∃ D, C ++ ⟨#[109, 117, 116, 32]⟩ = D := ⟨_, rfl⟩
    have lit : ∀ x y : ByteArray, (⟨#[38, 39]⟩ : ByteArray) ++ x ++ y = ⟨#[38]⟩ ++ (⟨#[39]⟩ ++ x ++ y) := fun x y => by
      rw [← ByteArray.append_assoc, ← ByteArray.append_assoc]; rfl
    have sA : A.size = 1 + life.size := by rw [← hA, ByteArray.size_append]; rfl
    have sB : B.size = A.size + 1 := by rw [← hB, ByteArray.size_append]; rfl
    have sC : C.size = 1 + B.size := by rw [← hC, ByteArray.size_append]; rfl
    have sD : D.size = C.size + 4 := by rw [← hD, ByteArray.size_append]; rfl
    have nC : (C.toList == [38]) = false := ne38 (by omega)
    have nD : (D.toList == [38]) = false := ne38 (by omega)
    have z1 : ¬ (9223372036854775807 < 1 + life.size) := by omega
    have z2 : ¬ (9223372036854775807 < A.size + 1) := by omega
    have z3 : ¬ (9223372036854775807 < 1 + B.size) := by omega
    have z4 : ¬ (9223372036854775807 < C.size + 4) := by omega
    have z5 : ¬ (9223372036854775807 < C.size + s.size) := by omega
    have z6 : ¬ (9223372036854775807 < D.size + s.size) := by omega
    cases m
    · have hc : C ++ s = r := by
        have : r = (⟨#[38, 39]⟩ : ByteArray) ++ life ++ ⟨#[32]⟩ ++ s := hr
        rw [this, lit, hA, hB, hC]
      clear hr h0 hl hs sA sB sC sD lit hD nD z4 z6
      go_enter Tryz.func71, Tryz.ntmps71
      go_wp2_with fail
      go_ret
      exact ⟨rfl, rfl⟩
    · have hc : D ++ s = r := by
        have : r = (⟨#[38, 39]⟩ : ByteArray) ++ life ++ ⟨#[32, 109, 117, 116, 32]⟩ ++ s := hr
        rw [this, lit, hA, ← hD, ← hC, ← hB, show (⟨#[32, 109, 117, 116, 32]⟩ : ByteArray) = ⟨#[32]⟩ ++ ⟨#[109, 117, 116, 32]⟩ from rfl]; simp only [ByteArray.append_assoc]
      clear hr h0 hl hs sA sB sC sD lit nC z5
      go_enter Tryz.func71, Tryz.ntmps71
      go_wp2_with fail
      go_ret
      exact ⟨rfl, rfl⟩
/-- strings.Fields at a text, slices.Contains behind it. -/
theorem fields_of (T : ByteArray) (ls : List (List UInt8)) (n : Nat) (hn : ls.length = n) (hf : Lib.fields T.data.toList = ls) (hz : T.size < 4294967281) (ha : ∀ b ∈ T.data.toList, b.toNat < 128) (w : World) (hT : Tab w) :
    Calls Tryz.prog 83 #[.string T] w fun e w' => e = .returned (.slice (some ⟨w.heap.size, 0, none⟩) n n) ∧ w' = w.alloc (.cells (srow ls) 9) := by
  have h := Tryz.strings_Fields T w hz (fun j b h => ha b (List.mem_of_getElem? h)) hT
  rw [hf] at h
  subst hn
  exact h
theorem contains_of (ls : List (List UInt8)) (n : Nat) (hl : ls.length = n) (hn : n ≤ 100) (b : Nat) (s : ByteArray) (w : World) (h : w.heap[b]? = some (.cells (srow ls) 9 (0, 0))) :
    Calls Tryz.prog 82 #[.slice (some ⟨b, 0, none⟩) n n, .string s] w fun e w' => e = .returned (.bool (ls.any fun l => s.toList == l)) ∧ w = w' := by
  subst hl
  refine (Tryz.slices_Contains_string b 0 ls.length ls.length (ls.map fun l => ⟨l.toArray⟩) s w (by simp) (by omega) (srow_cell h)).mono ?_
  rintro e w' ⟨rfl, rfl⟩
  rw [List.take_of_length_le (by simp), contains_any]
  exact ⟨rfl, rfl⟩
/-- A row of texts just laid. -/
def RowV (n : Nat) (v : Value) : Prop := ∃ nb, v = .slice (some ⟨nb, 0, none⟩) n n
def RowW (ls : List (List UInt8)) (n : Nat) (v : Value) (w : World) : Prop := ∃ nb, v = .slice (some ⟨nb, 0, none⟩) n n ∧ w.heap[nb]? = some (.cells (srow ls) 9 (0, 0))
theorem lasts_rowW (ls : List (List UInt8)) (n : Nat) : Lasts (RowW ls n) := fun _ _ _ hG ⟨nb, h1, h2⟩ => ⟨nb, h1, hG.heap (fun x => x) h2⟩
theorem lv_cases {s : ByteArray} (h : sgB s = true) : (([[124, 124]] : List (List UInt8)).any (fun l => s.toList == l) = true → lvP 32 s = 1) ∧ (([[38, 38]] : List (List UInt8)).any (fun l => s.toList == l) = true → lvP 32 s = 2) ∧ (([[61, 61], [33, 61], [60], [60, 61], [62], [62, 61]] : List (List UInt8)).any (fun l => s.toList == l) = true → lvP 32 s = 3) ∧ (([[43], [45]] : List (List UInt8)).any (fun l => s.toList == l) = true → lvP 32 s = 4) ∧ (([[42], [47], [37]] : List (List UInt8)).any (fun l => s.toList == l) = true → lvP 32 s = 5) ∧
    (([[124, 124]] : List (List UInt8)).any (fun l => s.toList == l) = false → ([[38, 38]] : List (List UInt8)).any (fun l => s.toList == l) = false → ([[61, 61], [33, 61], [60], [60, 61], [62], [62, 61]] : List (List UInt8)).any (fun l => s.toList == l) = false → ([[43], [45]] : List (List UInt8)).any (fun l => s.toList == l) = false → ([[42], [47], [37]] : List (List UInt8)).any (fun l => s.toList == l) = false → False) := by
  unfold sgB sgl at h
  simp only [List.any_cons, List.any_nil, Bool.or_false, Bool.or_eq_true, toList_beq, decide_eq_true_eq] at h
  rcases h with h | h | h | h | h | h | h | h | h | h | h | h | h <;> (subst h; decide +kernel)
set_option maxRecDepth 100000 in
set_option maxHeartbeats 4000000 in
theorem level_any (k : Nat) (hk : k < 256) (at_ n : Int) (s : ByteArray) (la : Option Addr) (ll lc : Nat) (hs : k = 32 → sgB s = true) (w : World) (hT : Tab w) :
    Calls Tryz.prog 57 #[.agg #[.int .u8 k, .int .i64 at_, .int .i64 n, .string s, .slice la ll lc]] w fun e w' => e = .returned (.int .i64 (lvP k s : Nat)) ∧ KB F0 w w' := by
  obtain ⟨w0, rfl⟩ : ∃ w0, w0 = w := ⟨_, rfl⟩
  obtain ⟨r, hr⟩ : ∃ r, r = lvP k s := ⟨_, rfl⟩
  rw [← hr]
  obtain ⟨W1, hW1⟩ : ∃ W1, W1 = w0.alloc (.cells #[.int .u8 k, .int .i64 at_, .int .i64 n, .string s, .slice la ll lc] 44) := ⟨_, rfl⟩
  have hb : W1.heap[w0.heap.size]? = some (.cells #[.int .u8 k, .int .i64 at_, .int .i64 n, .string s, .slice la ll lc] 44 (0, 0)) := by rw [hW1]; exact alloc_new _ _
  have hk1 : KB F0 w0 W1 := by rw [hW1]; exact (KB.refl F0 w0).alloc _
  have HW := Lib.hid hW1
  have HB := Lib.hid (And.intro hb hk1)
  clear hb hk1 hW1
  by_cases h32 : k = 32
  · subst h32
    have hc := lv_cases (hs rfl)
    rw [← hr] at hc
    have FL0 := Lib.hid (fun (W : World) (hk : KB F0 w0 W) => fields_of ⟨#[124, 124]⟩ [[124, 124]] 1 rfl (by decide +kernel) (by decide +kernel) (by decide +kernel) W (hT.kb hk))
    have C0 := Lib.hid (fun (b : Nat) (W : World) h => contains_of [[124, 124]] 1 rfl (by decide) b s W h)
    have FL1 := Lib.hid (fun (W : World) (hk : KB F0 w0 W) => fields_of ⟨#[38, 38]⟩ [[38, 38]] 1 rfl (by decide +kernel) (by decide +kernel) (by decide +kernel) W (hT.kb hk))
    have C1 := Lib.hid (fun (b : Nat) (W : World) h => contains_of [[38, 38]] 1 rfl (by decide) b s W h)
    have FL2 := Lib.hid (fun (W : World) (hk : KB F0 w0 W) => fields_of ⟨#[61, 61, 32, 33, 61, 32, 60, 32, 60, 61, 32, 62, 32, 62, 61]⟩ [[61, 61], [33, 61], [60], [60, 61], [62], [62, 61]] 6 rfl (by decide +kernel) (by decide +kernel) (by decide +kernel) W (hT.kb hk))
    have C2 := Lib.hid (fun (b : Nat) (W : World) h => contains_of [[61, 61], [33, 61], [60], [60, 61], [62], [62, 61]] 6 rfl (by decide) b s W h)
    have FL3 := Lib.hid (fun (W : World) (hk : KB F0 w0 W) => fields_of ⟨#[43, 32, 45]⟩ [[43], [45]] 2 rfl (by decide +kernel) (by decide +kernel) (by decide +kernel) W (hT.kb hk))
    have C3 := Lib.hid (fun (b : Nat) (W : World) h => contains_of [[43], [45]] 2 rfl (by decide) b s W h)
    have FL4 := Lib.hid (fun (W : World) (hk : KB F0 w0 W) => fields_of ⟨#[42, 32, 47, 32, 37]⟩ [[42], [47], [37]] 3 rfl (by decide +kernel) (by decide +kernel) (by decide +kernel) W (hT.kb hk))
    have C4 := Lib.hid (fun (b : Nat) (W : World) h => contains_of [[42], [47], [37]] 3 rfl (by decide) b s W h)
    generalize ([[124, 124]] : List (List UInt8)).any (fun l => s.toList == l) = c0 at hc C0
    generalize ([[38, 38]] : List (List UInt8)).any (fun l => s.toList == l) = c1 at hc C1
    generalize ([[61, 61], [33, 61], [60], [60, 61], [62], [62, 61]] : List (List UInt8)).any (fun l => s.toList == l) = c2 at hc C2
    generalize ([[43], [45]] : List (List UInt8)).any (fun l => s.toList == l) = c3 at hc C3
    generalize ([[42], [47], [37]] : List (List UInt8)).any (fun l => s.toList == l) = c4 at hc C4
    have HC := Lib.hid hc
    clear hc hs hT hr hk
    have d0 : (((32 : Nat) : Int) == 32) = true := rfl
    have w0k : KB F0 w0 W1 := HB.out.2
    have HK0 := Lib.hid w0k
    have d3 : W1.cell? ⟨w0.heap.size, 3, none⟩ = some (.string s) := blk_cell HB.out.1 3
    have HD3 := Lib.hid d3
    clear w0k d3
    have i0 : ∀ w, (Instr.index 108 (.agg #[.string ⟨#[124, 124]⟩, .string ⟨#[38, 38]⟩, .string ⟨#[61, 61, 32, 33, 61, 32, 60, 32, 60, 61, 32, 62, 32, 62, 61]⟩, .string ⟨#[43, 32, 45]⟩, .string ⟨#[42, 32, 47, 32, 37]⟩]) (.int .i64 0)).run Tryz.prog w = .ok (.string ⟨#[124, 124]⟩) w := fun _ => by kernel_rfl
    have i1 : ∀ w, (Instr.index 108 (.agg #[.string ⟨#[124, 124]⟩, .string ⟨#[38, 38]⟩, .string ⟨#[61, 61, 32, 33, 61, 32, 60, 32, 60, 61, 32, 62, 32, 62, 61]⟩, .string ⟨#[43, 32, 45]⟩, .string ⟨#[42, 32, 47, 32, 37]⟩]) (.int .i64 1)).run Tryz.prog w = .ok (.string ⟨#[38, 38]⟩) w := fun _ => by kernel_rfl
    have i2 : ∀ w, (Instr.index 108 (.agg #[.string ⟨#[124, 124]⟩, .string ⟨#[38, 38]⟩, .string ⟨#[61, 61, 32, 33, 61, 32, 60, 32, 60, 61, 32, 62, 32, 62, 61]⟩, .string ⟨#[43, 32, 45]⟩, .string ⟨#[42, 32, 47, 32, 37]⟩]) (.int .i64 2)).run Tryz.prog w = .ok (.string ⟨#[61, 61, 32, 33, 61, 32, 60, 32, 60, 61, 32, 62, 32, 62, 61]⟩) w := fun _ => by kernel_rfl
    have i3 : ∀ w, (Instr.index 108 (.agg #[.string ⟨#[124, 124]⟩, .string ⟨#[38, 38]⟩, .string ⟨#[61, 61, 32, 33, 61, 32, 60, 32, 60, 61, 32, 62, 32, 62, 61]⟩, .string ⟨#[43, 32, 45]⟩, .string ⟨#[42, 32, 47, 32, 37]⟩]) (.int .i64 3)).run Tryz.prog w = .ok (.string ⟨#[43, 32, 45]⟩) w := fun _ => by kernel_rfl
    have i4 : ∀ w, (Instr.index 108 (.agg #[.string ⟨#[124, 124]⟩, .string ⟨#[38, 38]⟩, .string ⟨#[61, 61, 32, 33, 61, 32, 60, 32, 60, 61, 32, 62, 32, 62, 61]⟩, .string ⟨#[43, 32, 45]⟩, .string ⟨#[42, 32, 47, 32, 37]⟩]) (.int .i64 4)).run Tryz.prog w = .ok (.string ⟨#[42, 32, 47, 32, 37]⟩) w := fun _ => by kernel_rfl
    go_enter Tryz.func57, Tryz.ntmps57
    go_wp2_with fail
    have HW2 : W1 = w0.alloc (.cells #[.int .u8 32, .int .i64 at_, .int .i64 n, .string s, .slice la ll lc] 44) := HW.out
    rw [← HW2]
    clear HW2
    refine wp_loop_rounds 5 ?_
    rw [rounds_succ]
    -- round 0
    have d3 := HD3.out
    go_wp2_with fail
    refine wp_region_rv 5 GK (kindW [(1, (RowV 1), (RowW [[124, 124]] 1)), (4, (fun v => v = .bool c0), (fun _ _ => True))]) (by kernel_rfl) (by kernel_rfl) (kb_trans _) (kb_refl _) (kb_start _ _) (kindW_mono _ (by intro p hp; simp only [List.mem_cons, List.not_mem_nil, or_false] at hp; (rcases hp with rfl | rfl; exact lasts_rowW _ _; exact lasts_true))) ?_
    simp only [List.take_succ_cons, List.take_zero, List.drop_succ_cons, List.drop_zero]
    refine rv_det (by kernel_rfl) rfl (by intro w hG hH; go_simp; first | done | with_reducible rfl) ?_
    simp only [Act.put, List.setIfInBounds_toArray, List.set_cons_zero, List.set_cons_succ]
    refine rv_rel (by kernel_rfl) rfl ⟨.slice (some ⟨0, 0, none⟩) 1 1, 0, rfl⟩ (by
      intro w hG hH
      refine opVal_call (by go_simp; first | done | exact ⟨⟨rfl, rfl⟩, rfl⟩) ?_
      refine (FL0.out w (HK0.out.trans hG)).mono ?_
      rintro e w' ⟨rfl, rfl⟩
      exact ⟨_, rfl, ⟨_, rfl⟩, (KB.refl _ _).alloc _, ⟨_, rfl, alloc_new _ _⟩⟩) ?_
    rintro v ⟨nb0, rfl⟩
    simp only [Act.put, List.setIfInBounds_toArray, List.set_cons_zero, List.set_cons_succ]
    iterate 2 (refine rv_det (by kernel_rfl) rfl (by intro w hG hH; have hc0 := KB.cell hG (fun x => x) (d3); go_simp; first | done | with_reducible rfl) ?_; simp only [Act.put, List.setIfInBounds_toArray, List.set_cons_zero, List.set_cons_succ])
    refine rv_rel (by kernel_rfl) rfl ⟨_, rfl⟩ (by
      intro w hG hH
      refine opVal_call (by go_simp; first | done | exact ⟨⟨rfl, rfl⟩, rfl⟩) ?_
      obtain ⟨nb2, e2, hb2⟩ := hH (1, _) List.mem_cons_self (by kernel_rfl)
      simp only [Value.slice.injEq, Option.some.injEq, Addr.mk.injEq, and_true] at e2
      subst e2
      refine (C0.out _ w hb2).mono ?_
      rintro e w' ⟨rfl, rfl⟩
      exact ⟨_, rfl, rfl, KB.refl _ _, trivial⟩) ?_
    rintro v rfl
    simp only [Act.put, List.setIfInBounds_toArray, List.set_cons_zero, List.set_cons_succ]
    refine rv_nil (fun w hG hH => ?_)
    have hkn := HK0.out.trans hG
    have d3n : w.cell? ⟨w0.heap.size, 3, none⟩ = some (.string s) := hG.cell (p := ⟨w0.heap.size, 3, none⟩) (fun x => x) d3
    clear HK0 HD3 d3 hG hH FL0 C0
    have HK0 := Lib.hid hkn
    have HD3 := Lib.hid d3n
    clear hkn d3n
    cases c0
    case true =>
      have HE := Lib.hid (HC.out.1 rfl)
      go_wp2_with fail
      go_ret
      exact ⟨ret_eq (by rw [HE.out]; rfl), HK0.out⟩
    case false =>
    go_wp2_with fail
    rw [rounds_succ]
    -- round 1
    have d3 := HD3.out
    go_wp2_with fail
    refine wp_region_rv 5 GK (kindW [(1, (RowV 1), (RowW [[38, 38]] 1)), (4, (fun v => v = .bool c1), (fun _ _ => True))]) (by kernel_rfl) (by kernel_rfl) (kb_trans _) (kb_refl _) (kb_start _ _) (kindW_mono _ (by intro p hp; simp only [List.mem_cons, List.not_mem_nil, or_false] at hp; (rcases hp with rfl | rfl; exact lasts_rowW _ _; exact lasts_true))) ?_
    simp only [List.take_succ_cons, List.take_zero, List.drop_succ_cons, List.drop_zero]
    refine rv_det (by kernel_rfl) rfl (by intro w hG hH; go_simp; first | done | with_reducible rfl) ?_
    simp only [Act.put, List.setIfInBounds_toArray, List.set_cons_zero, List.set_cons_succ]
    refine rv_rel (by kernel_rfl) rfl ⟨.slice (some ⟨0, 0, none⟩) 1 1, 0, rfl⟩ (by
      intro w hG hH
      refine opVal_call (by go_simp; first | done | exact ⟨⟨rfl, rfl⟩, rfl⟩) ?_
      refine (FL1.out w (HK0.out.trans hG)).mono ?_
      rintro e w' ⟨rfl, rfl⟩
      exact ⟨_, rfl, ⟨_, rfl⟩, (KB.refl _ _).alloc _, ⟨_, rfl, alloc_new _ _⟩⟩) ?_
    rintro v ⟨nb1, rfl⟩
    simp only [Act.put, List.setIfInBounds_toArray, List.set_cons_zero, List.set_cons_succ]
    iterate 2 (refine rv_det (by kernel_rfl) rfl (by intro w hG hH; have hc0 := KB.cell hG (fun x => x) (d3); go_simp; first | done | with_reducible rfl) ?_; simp only [Act.put, List.setIfInBounds_toArray, List.set_cons_zero, List.set_cons_succ])
    refine rv_rel (by kernel_rfl) rfl ⟨_, rfl⟩ (by
      intro w hG hH
      refine opVal_call (by go_simp; first | done | exact ⟨⟨rfl, rfl⟩, rfl⟩) ?_
      obtain ⟨nb2, e2, hb2⟩ := hH (1, _) List.mem_cons_self (by kernel_rfl)
      simp only [Value.slice.injEq, Option.some.injEq, Addr.mk.injEq, and_true] at e2
      subst e2
      refine (C1.out _ w hb2).mono ?_
      rintro e w' ⟨rfl, rfl⟩
      exact ⟨_, rfl, rfl, KB.refl _ _, trivial⟩) ?_
    rintro v rfl
    simp only [Act.put, List.setIfInBounds_toArray, List.set_cons_zero, List.set_cons_succ]
    refine rv_nil (fun w hG hH => ?_)
    have hkn := HK0.out.trans hG
    have d3n : w.cell? ⟨w0.heap.size, 3, none⟩ = some (.string s) := hG.cell (p := ⟨w0.heap.size, 3, none⟩) (fun x => x) d3
    clear HK0 HD3 d3 hG hH FL1 C1
    have HK0 := Lib.hid hkn
    have HD3 := Lib.hid d3n
    clear hkn d3n
    cases c1
    case true =>
      have HE := Lib.hid (HC.out.2.1 rfl)
      go_wp2_with fail
      go_ret
      exact ⟨ret_eq (by rw [HE.out]; rfl), HK0.out⟩
    case false =>
    go_wp2_with fail
    rw [rounds_succ]
    -- round 2
    have d3 := HD3.out
    go_wp2_with fail
    refine wp_region_rv 5 GK (kindW [(1, (RowV 6), (RowW [[61, 61], [33, 61], [60], [60, 61], [62], [62, 61]] 6)), (4, (fun v => v = .bool c2), (fun _ _ => True))]) (by kernel_rfl) (by kernel_rfl) (kb_trans _) (kb_refl _) (kb_start _ _) (kindW_mono _ (by intro p hp; simp only [List.mem_cons, List.not_mem_nil, or_false] at hp; (rcases hp with rfl | rfl; exact lasts_rowW _ _; exact lasts_true))) ?_
    simp only [List.take_succ_cons, List.take_zero, List.drop_succ_cons, List.drop_zero]
    refine rv_det (by kernel_rfl) rfl (by intro w hG hH; go_simp; first | done | with_reducible rfl) ?_
    simp only [Act.put, List.setIfInBounds_toArray, List.set_cons_zero, List.set_cons_succ]
    refine rv_rel (by kernel_rfl) rfl ⟨.slice (some ⟨0, 0, none⟩) 6 6, 0, rfl⟩ (by
      intro w hG hH
      refine opVal_call (by go_simp; first | done | exact ⟨⟨rfl, rfl⟩, rfl⟩) ?_
      refine (FL2.out w (HK0.out.trans hG)).mono ?_
      rintro e w' ⟨rfl, rfl⟩
      exact ⟨_, rfl, ⟨_, rfl⟩, (KB.refl _ _).alloc _, ⟨_, rfl, alloc_new _ _⟩⟩) ?_
    rintro v ⟨nb2, rfl⟩
    simp only [Act.put, List.setIfInBounds_toArray, List.set_cons_zero, List.set_cons_succ]
    iterate 2 (refine rv_det (by kernel_rfl) rfl (by intro w hG hH; have hc0 := KB.cell hG (fun x => x) (d3); go_simp; first | done | with_reducible rfl) ?_; simp only [Act.put, List.setIfInBounds_toArray, List.set_cons_zero, List.set_cons_succ])
    refine rv_rel (by kernel_rfl) rfl ⟨_, rfl⟩ (by
      intro w hG hH
      refine opVal_call (by go_simp; first | done | exact ⟨⟨rfl, rfl⟩, rfl⟩) ?_
      obtain ⟨nb2, e2, hb2⟩ := hH (1, _) List.mem_cons_self (by kernel_rfl)
      simp only [Value.slice.injEq, Option.some.injEq, Addr.mk.injEq, and_true] at e2
      subst e2
      refine (C2.out _ w hb2).mono ?_
      rintro e w' ⟨rfl, rfl⟩
      exact ⟨_, rfl, rfl, KB.refl _ _, trivial⟩) ?_
    rintro v rfl
    simp only [Act.put, List.setIfInBounds_toArray, List.set_cons_zero, List.set_cons_succ]
    refine rv_nil (fun w hG hH => ?_)
    have hkn := HK0.out.trans hG
    have d3n : w.cell? ⟨w0.heap.size, 3, none⟩ = some (.string s) := hG.cell (p := ⟨w0.heap.size, 3, none⟩) (fun x => x) d3
    clear HK0 HD3 d3 hG hH FL2 C2
    have HK0 := Lib.hid hkn
    have HD3 := Lib.hid d3n
    clear hkn d3n
    cases c2
    case true =>
      have HE := Lib.hid (HC.out.2.2.1 rfl)
      go_wp2_with fail
      go_ret
      exact ⟨ret_eq (by rw [HE.out]; rfl), HK0.out⟩
    case false =>
    go_wp2_with fail
    rw [rounds_succ]
    -- round 3
    have d3 := HD3.out
    go_wp2_with fail
    refine wp_region_rv 5 GK (kindW [(1, (RowV 2), (RowW [[43], [45]] 2)), (4, (fun v => v = .bool c3), (fun _ _ => True))]) (by kernel_rfl) (by kernel_rfl) (kb_trans _) (kb_refl _) (kb_start _ _) (kindW_mono _ (by intro p hp; simp only [List.mem_cons, List.not_mem_nil, or_false] at hp; (rcases hp with rfl | rfl; exact lasts_rowW _ _; exact lasts_true))) ?_
    simp only [List.take_succ_cons, List.take_zero, List.drop_succ_cons, List.drop_zero]
    refine rv_det (by kernel_rfl) rfl (by intro w hG hH; go_simp; first | done | with_reducible rfl) ?_
    simp only [Act.put, List.setIfInBounds_toArray, List.set_cons_zero, List.set_cons_succ]
    refine rv_rel (by kernel_rfl) rfl ⟨.slice (some ⟨0, 0, none⟩) 2 2, 0, rfl⟩ (by
      intro w hG hH
      refine opVal_call (by go_simp; first | done | exact ⟨⟨rfl, rfl⟩, rfl⟩) ?_
      refine (FL3.out w (HK0.out.trans hG)).mono ?_
      rintro e w' ⟨rfl, rfl⟩
      exact ⟨_, rfl, ⟨_, rfl⟩, (KB.refl _ _).alloc _, ⟨_, rfl, alloc_new _ _⟩⟩) ?_
    rintro v ⟨nb3, rfl⟩
    simp only [Act.put, List.setIfInBounds_toArray, List.set_cons_zero, List.set_cons_succ]
    iterate 2 (refine rv_det (by kernel_rfl) rfl (by intro w hG hH; have hc0 := KB.cell hG (fun x => x) (d3); go_simp; first | done | with_reducible rfl) ?_; simp only [Act.put, List.setIfInBounds_toArray, List.set_cons_zero, List.set_cons_succ])
    refine rv_rel (by kernel_rfl) rfl ⟨_, rfl⟩ (by
      intro w hG hH
      refine opVal_call (by go_simp; first | done | exact ⟨⟨rfl, rfl⟩, rfl⟩) ?_
      obtain ⟨nb2, e2, hb2⟩ := hH (1, _) List.mem_cons_self (by kernel_rfl)
      simp only [Value.slice.injEq, Option.some.injEq, Addr.mk.injEq, and_true] at e2
      subst e2
      refine (C3.out _ w hb2).mono ?_
      rintro e w' ⟨rfl, rfl⟩
      exact ⟨_, rfl, rfl, KB.refl _ _, trivial⟩) ?_
    rintro v rfl
    simp only [Act.put, List.setIfInBounds_toArray, List.set_cons_zero, List.set_cons_succ]
    refine rv_nil (fun w hG hH => ?_)
    have hkn := HK0.out.trans hG
    have d3n : w.cell? ⟨w0.heap.size, 3, none⟩ = some (.string s) := hG.cell (p := ⟨w0.heap.size, 3, none⟩) (fun x => x) d3
    clear HK0 HD3 d3 hG hH FL3 C3
    have HK0 := Lib.hid hkn
    have HD3 := Lib.hid d3n
    clear hkn d3n
    cases c3
    case true =>
      have HE := Lib.hid (HC.out.2.2.2.1 rfl)
      go_wp2_with fail
      go_ret
      exact ⟨ret_eq (by rw [HE.out]; rfl), HK0.out⟩
    case false =>
    go_wp2_with fail
    rw [rounds_succ]
    -- round 4
    have d3 := HD3.out
    go_wp2_with fail
    refine wp_region_rv 5 GK (kindW [(1, (RowV 3), (RowW [[42], [47], [37]] 3)), (4, (fun v => v = .bool c4), (fun _ _ => True))]) (by kernel_rfl) (by kernel_rfl) (kb_trans _) (kb_refl _) (kb_start _ _) (kindW_mono _ (by intro p hp; simp only [List.mem_cons, List.not_mem_nil, or_false] at hp; (rcases hp with rfl | rfl; exact lasts_rowW _ _; exact lasts_true))) ?_
    simp only [List.take_succ_cons, List.take_zero, List.drop_succ_cons, List.drop_zero]
    refine rv_det (by kernel_rfl) rfl (by intro w hG hH; go_simp; first | done | with_reducible rfl) ?_
    simp only [Act.put, List.setIfInBounds_toArray, List.set_cons_zero, List.set_cons_succ]
    refine rv_rel (by kernel_rfl) rfl ⟨.slice (some ⟨0, 0, none⟩) 3 3, 0, rfl⟩ (by
      intro w hG hH
      refine opVal_call (by go_simp; first | done | exact ⟨⟨rfl, rfl⟩, rfl⟩) ?_
      refine (FL4.out w (HK0.out.trans hG)).mono ?_
      rintro e w' ⟨rfl, rfl⟩
      exact ⟨_, rfl, ⟨_, rfl⟩, (KB.refl _ _).alloc _, ⟨_, rfl, alloc_new _ _⟩⟩) ?_
    rintro v ⟨nb4, rfl⟩
    simp only [Act.put, List.setIfInBounds_toArray, List.set_cons_zero, List.set_cons_succ]
    iterate 2 (refine rv_det (by kernel_rfl) rfl (by intro w hG hH; have hc0 := KB.cell hG (fun x => x) (d3); go_simp; first | done | with_reducible rfl) ?_; simp only [Act.put, List.setIfInBounds_toArray, List.set_cons_zero, List.set_cons_succ])
    refine rv_rel (by kernel_rfl) rfl ⟨_, rfl⟩ (by
      intro w hG hH
      refine opVal_call (by go_simp; first | done | exact ⟨⟨rfl, rfl⟩, rfl⟩) ?_
      obtain ⟨nb2, e2, hb2⟩ := hH (1, _) List.mem_cons_self (by kernel_rfl)
      simp only [Value.slice.injEq, Option.some.injEq, Addr.mk.injEq, and_true] at e2
      subst e2
      refine (C4.out _ w hb2).mono ?_
      rintro e w' ⟨rfl, rfl⟩
      exact ⟨_, rfl, rfl, KB.refl _ _, trivial⟩) ?_
    rintro v rfl
    simp only [Act.put, List.setIfInBounds_toArray, List.set_cons_zero, List.set_cons_succ]
    refine rv_nil (fun w hG hH => ?_)
    have hkn := HK0.out.trans hG
    have d3n : w.cell? ⟨w0.heap.size, 3, none⟩ = some (.string s) := hG.cell (p := ⟨w0.heap.size, 3, none⟩) (fun x => x) d3
    clear HK0 HD3 d3 hG hH FL4 C4
    have HK0 := Lib.hid hkn
    have HD3 := Lib.hid d3n
    clear hkn d3n
    cases c4
    case true =>
      have HE := Lib.hid (HC.out.2.2.2.2.1 rfl)
      go_wp2_with fail
      go_ret
      exact ⟨ret_eq (by rw [HE.out]; rfl), HK0.out⟩
    case false =>
    have hx := HC.out.2.2.2.2.2
    simp at hx
  · have hcases : r = if 28 ≤ k ∧ k ≤ 31 then 6 else if k = 27 then 7 else 8 := by rw [hr, lvP, if_neg h32]
    have HR := Lib.hid hcases
    have d0 : ((k : Int) == 32) = false := by simp; omega
    have d1 : ∀ j : Nat, ((k : Int) == (j : Int)) = decide (k = j) := fun j => by rw [Bool.eq_iff_iff]; simp; omega
    clear hr hcases hs hT
    by_cases h6 : 28 ≤ k ∧ k ≤ 31
    · obtain rfl | rfl | rfl | rfl : k = 28 ∨ k = 29 ∨ k = 30 ∨ k = 31 := by omega
      all_goals
        clear d1 h6 d0 h32 hk
        go_enter Tryz.func57, Tryz.ntmps57
        go_wp2_with fail
        go_ret
        exact ⟨ret_eq (by rw [HR.out]; rfl), by have := HB.out.2; rw [HW.out] at this; exact this⟩
    · have e1 : ((k : Int) == 30) = false := by simp; omega
      have e2 : ((k : Int) == 31) = false := by simp; omega
      have e3 : ((k : Int) == 28) = false := by simp; omega
      have e4 : ((k : Int) == 29) = false := by simp; omega
      by_cases h7 : k = 27
      · have HE : Hid (r = 7) := Lib.hid (by rw [HR.out, if_neg h6, if_pos h7])
        have e5 : ((k : Int) == 27) = true := by simp; omega
        clear d1 h6 h7 h32 hk
        go_enter Tryz.func57, Tryz.ntmps57
        go_wp2_with fail
        go_ret
        exact ⟨ret_eq (by rw [HE.out]; rfl), by rw [← HW.out]; exact HB.out.2⟩
      · have HE : Hid (r = 8) := Lib.hid (by rw [HR.out, if_neg h6, if_neg h7])
        have e5 : ((k : Int) == 27) = false := by simp; omega
        clear d1 h6 h7 h32 hk
        go_enter Tryz.func57, Tryz.ntmps57
        go_wp2_with fail
        go_ret
        exact ⟨ret_eq (by rw [HE.out]; rfl), by rw [← HW.out]; exact HB.out.2⟩
end Go.Proofs.YtoophdcagpfmpaaGreatDoor

/- types.text of a type without regions. -/
import Derived.Test.YtaeppaaolkcbbaaGreatDoorMg13
import Derived.Test.YtaeppaaolkcbbaaGreatDoorMg14
namespace Go.Proofs.YtaeppaaolkcbbaaGreatDoor
open Go.RowKit

def ampM (m : Bool) (s : ByteArray) : ByteArray := if m = true then ⟨#[38, 109, 117, 116, 32]⟩ ++ s else if s.data.toList.head? = some 38 then ⟨#[38, 32]⟩ ++ s else ⟨#[38]⟩ ++ s
def numB (i : Int) : ByteArray := ⟨(Lib.decDigits i.toNat).toArray⟩
/-- A type's text, but for regions. -/
def txB : Nat → Ty → ByteArray
  | 0, _ => ⟨#[]⟩
  | n + 1, t => if t.k = 1 then ⟨#[105, 54, 52]⟩ else if t.k = 2 then ⟨#[98, 111, 111, 108]⟩ else if t.k = 3 then ⟨#[66, 111, 120, 60]⟩ ++ txB n (in0 t) ++ ⟨#[62]⟩ else if t.k = 5 then ⟨#[35]⟩ ++ numB t.s else ampM t.m (txB n (in0 t))
/-- No reference in it has a region. -/
def NoR : Nat → Ty → Prop
  | 0, _ => True
  | n + 1, t => (t.k = 4 → t.r < 0) ∧ NoR n (in0 t)
theorem ampM_size (m : Bool) (s : ByteArray) : (ampM m s).size ≤ 5 + s.size ∧ 1 ≤ (ampM m s).size := by
  unfold ampM
  split
  · rw [ByteArray.size_append]; exact ⟨Nat.le_refl _, Nat.le_trans (by decide : 1 ≤ 5) (Nat.le_add_right _ _)⟩
  · split
    · rw [ByteArray.size_append]; exact ⟨Nat.add_le_add_right (by decide : 2 ≤ 5) _, Nat.le_trans (by decide : 1 ≤ 2) (Nat.le_add_right _ _)⟩
    · rw [ByteArray.size_append]; exact ⟨Nat.add_le_add_right (by decide : 1 ≤ 5) _, Nat.le_add_right _ _⟩
theorem decDigits_small : ∀ i : Nat, i < 32 → (Lib.decDigits i).length ≤ 2 := by decide +kernel
theorem txB_size : ∀ (n : Nat) (t : Ty), lookB 32 n t = true → (txB n t).size ≤ 5 * n + 30 ∧ 1 ≤ (txB n t).size := by
  intro n
  induction n with
  | zero => intro t h; cases h
  | succ n ih =>
    intro t h
    unfold lookB at h
    unfold txB
    by_cases h1 : t.k = 1
    · rw [if_pos h1]; exact ⟨Nat.le_trans (by decide : 3 ≤ 30) (by omega), (by decide : 1 ≤ 3)⟩
    rw [if_neg h1]
    by_cases h2 : t.k = 2
    · rw [if_pos h2]; exact ⟨Nat.le_trans (by decide : 4 ≤ 30) (by omega), (by decide : 1 ≤ 4)⟩
    rw [if_neg h2]
    rw [if_neg (by omega)] at h
    by_cases h3 : t.k = 3
    · rw [if_pos h3]
      rw [if_neg (by omega), if_pos h3] at h
      simp only [Bool.and_eq_true, decide_eq_true_eq] at h
      have := ih (in0 t) h.2.2.2
      rw [ByteArray.size_append, ByteArray.size_append]
      show 4 + (txB n (in0 t)).size + 1 ≤ _ ∧ 1 ≤ 4 + (txB n (in0 t)).size + 1
      omega
    rw [if_neg h3]
    by_cases h5 : t.k = 5
    · rw [if_pos h5]
      rw [if_pos h5] at h
      simp only [Bool.and_eq_true, decide_eq_true_eq] at h
      have h6 := decDigits_small t.s.toNat (by omega)
      rw [ByteArray.size_append]
      show 1 + (Lib.decDigits t.s.toNat).toArray.size ≤ _ ∧ 1 ≤ 1 + (Lib.decDigits t.s.toNat).toArray.size
      rw [List.size_toArray]
      omega
    rw [if_neg h5]
    rw [if_neg h5, if_neg h3] at h
    by_cases h4 : t.k = 4
    · rw [if_pos h4] at h
      simp only [Bool.and_eq_true, decide_eq_true_eq] at h
      have h7 := ih (in0 t) h.2.2.2
      have := ampM_size t.m (txB n (in0 t))
      omega
    · rw [if_neg h4] at h; cases h
set_option maxRecDepth 100000 in
set_option maxHeartbeats 16000000 in
theorem text_leaf (k : Int) (m : Bool) (rg st : Int) (a : Option Addr) (l c : Nat) (w : World) (r : ByteArray) (hr : k = 1 ∧ r = ⟨#[105, 54, 52]⟩ ∨ k = 2 ∧ r = ⟨#[98, 111, 111, 108]⟩) :
    Calls Tryz.prog 115 #[.agg #[.int .u8 k, .bool m, .int .i64 rg, .int .i64 st, .slice a l c]] w fun e w' => e = .returned (.string r) ∧ KB F0 w w' := by
  obtain ⟨w0, rfl⟩ : ∃ w0, w0 = w := ⟨_, rfl⟩
  obtain ⟨W, hW⟩ : ∃ W, W = w0.alloc (.cells #[.int .u8 k, .bool m, .int .i64 rg, .int .i64 st, .slice a l c] 26) := ⟨_, rfl⟩
  have kW : KB F0 w0 W := by rw [hW]; exact (KB.refl _ _).alloc _
  have bW : W.heap[w0.heap.size]? = some (.cells #[.int .u8 k, .bool m, .int .i64 rg, .int .i64 st, .slice a l c] 26 (0, 0)) := by rw [hW]; exact alloc_new _ _
  have a0 : W.cell? ⟨w0.heap.size, 0, none⟩ = some (.int .u8 k) := blk_cell bW 0
  have HW := Lib.hid hW
  have HK := Lib.hid kW
  clear hW kW bW
  rcases hr with ⟨rfl, rfl⟩ | ⟨rfl, rfl⟩
  all_goals
    go_enter Tryz.func115, Tryz.ntmps115
    go_upto_region 1 with fail
    rw [← HW.out]
    go_wp2_with fail
    go_ret
    exact ⟨rfl, HK.out⟩
set_option maxRecDepth 100000 in
set_option maxHeartbeats 16000000 in
theorem text_num (m : Bool) (rg : Int) (i : Nat) (hi : i < 32) (a : Option Addr) (l c : Nat) (w : World) :
    Calls Tryz.prog 115 #[.agg #[.int .u8 5, .bool m, .int .i64 rg, .int .i64 (i : Nat), .slice a l c]] w fun e w' => e = .returned (.string (⟨#[35]⟩ ++ numB (i : Nat))) ∧ KB F0 w w' := by
  obtain ⟨w0, rfl⟩ : ∃ w0, w0 = w := ⟨_, rfl⟩
  obtain ⟨W, hW⟩ : ∃ W, W = w0.alloc (.cells #[.int .u8 5, .bool m, .int .i64 rg, .int .i64 (i : Nat), .slice a l c] 26) := ⟨_, rfl⟩
  have kW : KB F0 w0 W := by rw [hW]; exact (KB.refl _ _).alloc _
  have bW : W.heap[w0.heap.size]? = some (.cells #[.int .u8 5, .bool m, .int .i64 rg, .int .i64 (i : Nat), .slice a l c] 26 (0, 0)) := by rw [hW]; exact alloc_new _ _
  have a0 : W.cell? ⟨w0.heap.size, 0, none⟩ = some (.int .u8 5) := blk_cell bW 0
  have a3 : W.cell? ⟨w0.heap.size, 3, none⟩ = some (.int .i64 (i : Nat)) := blk_cell bW 3
  have IT := Lib.hid (Tryz.strconv_Itoa_small i (by omega) W)
  rw [show (⟨(Lib.decDigits i).toArray⟩ : ByteArray) = numB (i : Nat) by unfold numB; rw [Int.toNat_natCast]] at IT
  have hz : (numB (i : Nat)).size ≤ 2 := by
    show (Lib.decDigits (i : Int).toNat).toArray.size ≤ 2
    rw [Int.toNat_natCast, List.size_toArray]
    exact decDigits_small i hi
  obtain ⟨D, hD⟩ : ∃ D, D = numB (i : Nat) := ⟨_, rfl⟩
  rw [← hD] at IT hz ⊢
  obtain ⟨R, hR⟩ : ∃ R, ⟨#[35]⟩ ++ D = R := ⟨_, rfl⟩
  rw [hR]
  have z1 : ¬ (9223372036854775807 < 1 + D.size) := by omega
  have HW := Lib.hid hW
  have HK := Lib.hid kW
  clear hW kW bW hz hD
  go_enter Tryz.func115, Tryz.ntmps115
  go_upto_region 1 with fail
  rw [← HW.out]
  go_wp2_with fail
  refine IT.out.mono ?_
  rintro e w1 ⟨rfl, rfl⟩
  go_wp2_with fail
  go_ret
  exact ⟨rfl, HK.out⟩
set_option maxRecDepth 100000 in
set_option maxHeartbeats 16000000 in
theorem text_box (m : Bool) (rg st : Int) (ab ao l c : Nat) (u : Ty) (ua : Option Addr) (uc : Nat) (w : World) (hl : 0 < l) (hu : TyCells w ab ao u ua uc) (C : ByteArray) (hC : C.size ≤ 1000)
    (rec : ∀ V, KB F0 w V → Calls Tryz.prog 115 #[tyV u ua uc] V fun e w' => e = .returned (.string C) ∧ KB F0 V w') :
    Calls Tryz.prog 115 #[.agg #[.int .u8 3, .bool m, .int .i64 rg, .int .i64 st, .slice (some ⟨ab, ao, none⟩) l c]] w fun e w' => e = .returned (.string (⟨#[66, 111, 120, 60]⟩ ++ C ++ ⟨#[62]⟩)) ∧ KB F0 w w' := by
  obtain ⟨w0, rfl⟩ : ∃ w0, w0 = w := ⟨_, rfl⟩
  obtain ⟨W, hW⟩ : ∃ W, W = w0.alloc (.cells #[.int .u8 3, .bool m, .int .i64 rg, .int .i64 st, .slice (some ⟨ab, ao, none⟩) l c] 26) := ⟨_, rfl⟩
  have kW : KB F0 w0 W := by rw [hW]; exact (KB.refl _ _).alloc _
  have bW : W.heap[w0.heap.size]? = some (.cells #[.int .u8 3, .bool m, .int .i64 rg, .int .i64 st, .slice (some ⟨ab, ao, none⟩) l c] 26 (0, 0)) := by rw [hW]; exact alloc_new _ _
  have a0 : W.cell? ⟨w0.heap.size, 0, none⟩ = some (.int .u8 3) := blk_cell bW 0
  have a4 : W.cell? ⟨w0.heap.size, 4, none⟩ = some (.slice (some ⟨ab, ao, none⟩) l c) := blk_cell bW 4
  obtain ⟨i0, i1, i2, i3, i4⟩ := hu.kbF kW
  obtain ⟨A, hA⟩ : ∃ A, ⟨#[66, 111, 120, 60]⟩ ++ C = A := ⟨_, rfl⟩
  have hsA : A.size = 4 + C.size := by rw [← hA, ByteArray.size_append]; rfl
  rw [hA]
  obtain ⟨R, hR⟩ : ∃ R, A ++ ⟨#[62]⟩ = R := ⟨_, rfl⟩
  rw [hR]
  have z1 : ¬ (9223372036854775807 < 4 + C.size) := by omega
  have z2 : ¬ (9223372036854775807 < A.size + 1) := by omega
  have HW := Lib.hid hW
  have HK := Lib.hid kW
  have RC := Lib.hid (rec W kW)
  unfold tyV at RC
  generalize u.k = uk at *
  generalize u.m = um at *
  generalize u.r = ur at *
  generalize u.s = us at *
  clear hW kW bW rec hu hsA hC
  go_enter Tryz.func115, Tryz.ntmps115
  go_upto_region 1 with fail
  rw [← HW.out]
  go_wp2_with fail
  refine RC.out.mono ?_
  rintro e w1 ⟨rfl, k1⟩
  have K1 := Lib.hid (HK.out.trans k1)
  clear k1 i0 i1 i2 i3 i4 a0 a4
  go_wp2_with fail
  go_ret
  exact ⟨rfl, K1.out⟩
theorem ne38' {C : ByteArray} (h : C.size ≠ 1) : (C.toList == [38]) = false := by
  rw [beq_eq_false_iff_ne]; intro e; have := congrArg List.length e
  rw [ByteArray.toList_eq] at this; simp at this; omega
theorem amp_at {C : ByteArray} (h : 1 ≤ C.size) : C.data.toList.head? = some (C[0]'h) := by
  rw [List.head?_eq_getElem?, Array.getElem?_toList]; exact Array.getElem?_eq_getElem h
theorem amp_yes {C : ByteArray} (h : 1 ≤ C.size) (e : (((C[0]'h).toNat : Int) == 38) = true) : ampM false C = ⟨#[38, 32]⟩ ++ C := by
  unfold ampM
  rw [if_neg (by decide), amp_at h, if_pos]
  have := beq_iff_eq.1 e
  exact congrArg some (UInt8.toNat_inj.1 (by show _ = 38; omega))
theorem amp_no {C : ByteArray} (h : 1 ≤ C.size) (e : (((C[0]'h).toNat : Int) == 38) = false) : ampM false C = ⟨#[38]⟩ ++ C := by
  unfold ampM
  rw [if_neg (by decide), amp_at h, if_neg]
  have := beq_eq_false_iff_ne.1 e
  intro h2
  rw [Option.some.inj h2] at this
  exact this rfl
theorem rest_mut (C : ByteArray) : ampM true C = (⟨#[38]⟩ ++ ⟨#[109, 117, 116, 32]⟩) ++ C := rfl
set_option maxRecDepth 100000 in
set_option maxHeartbeats 16000000 in
theorem text_ref (m : Bool) (rg st : Int) (hr : rg < 0) (ab ao l c : Nat) (u : Ty) (ua : Option Addr) (uc : Nat) (w : World) (hl : 0 < l) (hu : TyCells w ab ao u ua uc) (C : ByteArray) (hC : C.size ≤ 1000) (hC1 : 1 ≤ C.size)
    (rec : ∀ V, KB F0 w V → Calls Tryz.prog 115 #[tyV u ua uc] V fun e w' => e = .returned (.string C) ∧ KB F0 V w') :
    Calls Tryz.prog 115 #[.agg #[.int .u8 4, .bool m, .int .i64 rg, .int .i64 st, .slice (some ⟨ab, ao, none⟩) l c]] w fun e w' => e = .returned (.string (ampM m C)) ∧ KB F0 w w' := by
  obtain ⟨w0, rfl⟩ : ∃ w0, w0 = w := ⟨_, rfl⟩
  obtain ⟨W, hW⟩ : ∃ W, W = w0.alloc (.cells #[.int .u8 4, .bool m, .int .i64 rg, .int .i64 st, .slice (some ⟨ab, ao, none⟩) l c] 26) := ⟨_, rfl⟩
  have kW : KB F0 w0 W := by rw [hW]; exact (KB.refl _ _).alloc _
  have bW : W.heap[w0.heap.size]? = some (.cells #[.int .u8 4, .bool m, .int .i64 rg, .int .i64 st, .slice (some ⟨ab, ao, none⟩) l c] 26 (0, 0)) := by rw [hW]; exact alloc_new _ _
  have a0 : W.cell? ⟨w0.heap.size, 0, none⟩ = some (.int .u8 4) := blk_cell bW 0
  have a4 : W.cell? ⟨w0.heap.size, 4, none⟩ = some (.slice (some ⟨ab, ao, none⟩) l c) := blk_cell bW 4
  obtain ⟨i0, i1, i2, i3, i4⟩ := hu.kbF kW
  have HW := Lib.hid hW
  have HK := Lib.hid (And.intro kW bW)
  have RC := Lib.hid (rec W kW)
  unfold tyV at RC
  generalize u.k = uk at *
  generalize u.m = um at *
  generalize u.r = ur at *
  generalize u.s = us at *
  have dr : decide (0 ≤ rg) = false := decide_eq_false (by omega)
  clear hW kW bW rec hu
  cases m with
  | true =>
    rw [rest_mut]
    obtain ⟨H, h1, h2, h3⟩ : ∃ H : ByteArray, (⟨#[38]⟩ : ByteArray) ++ ⟨#[109, 117, 116, 32]⟩ = H ∧ (H.toList == [38]) = false ∧ H.size = 5 := ⟨_, rfl, ne38' (by decide), rfl⟩
    rw [h1]
    obtain ⟨R, hR⟩ : ∃ R, H ++ C = R := ⟨_, rfl⟩
    rw [hR]
    have z1 : ¬ (9223372036854775807 < H.size + C.size) := by omega
    clear h3
    go_enter Tryz.func115, Tryz.ntmps115
    go_upto_region 1 with fail
    rw [← HW.out]
    go_wp2_with fail
    refine RC.out.mono ?_
    rintro e w1 ⟨rfl, k1⟩
    have K1 := Lib.hid (HK.out.1.trans k1)
    have b1 := k1.heap (fun x => x) HK.out.2
    clear i0 i1 i2 i3 i4 a0 a4 k1
    have a1 : w1.cell? ⟨w0.heap.size, 1, none⟩ = some (.bool true) := blk_cell b1 1
    have a2 : w1.cell? ⟨w0.heap.size, 2, none⟩ = some (.int .i64 rg) := blk_cell b1 2
    go_wp2_with fail
    go_ret
    exact ⟨rfl, K1.out⟩
  | false =>
    have z1 : ¬ (9223372036854775807 < 1 + C.size) := by omega
    have z2 : ¬ (9223372036854775807 < 2 + C.size) := by omega
    go_enter Tryz.func115, Tryz.ntmps115
    go_upto_region 1 with fail
    rw [← HW.out]
    go_wp2_with fail
    refine RC.out.mono ?_
    rintro e w1 ⟨rfl, k1⟩
    have K1 := Lib.hid (HK.out.1.trans k1)
    have b1 := k1.heap (fun x => x) HK.out.2
    clear i0 i1 i2 i3 i4 a0 a4 k1
    have a1 : w1.cell? ⟨w0.heap.size, 1, none⟩ = some (.bool false) := blk_cell b1 1
    have a2 : w1.cell? ⟨w0.heap.size, 2, none⟩ = some (.int .i64 rg) := blk_cell b1 2
    go_wp2_with fail
    all_goals
      go_ret
      first
      | exact ⟨by rw [amp_yes hC1 (by assumption)]; rfl, K1.out⟩
      | exact ⟨by rw [amp_no hC1 (by assumption)]; rfl, K1.out⟩
/-- types.text. -/
theorem tytext_any : ∀ (n : Nat) (_ : n ≤ 100) (t : Ty) (a : Option Addr) (c : Nat) (w : World), lookB 32 n t = true → NoR n t → TyAt n w t a c →
    Calls Tryz.prog 115 #[tyV t a c] w fun e w' => e = .returned (.string (txB n t)) ∧ KB F0 w w' := by
  intro n
  induction n with
  | zero => intro _ t a c w h; cases h
  | succ n ih =>
    intro hn t a c w h hr ha
    have h0 := h
    unfold lookB at h
    by_cases h1 : t.k = 1
    · refine (text_leaf t.k t.m t.r t.s a t.of.length c w (txB (n + 1) t) (Or.inl ⟨h1, ?_⟩)).mono fun e w' h => h
      unfold txB; rw [if_pos h1]
    by_cases h2 : t.k = 2
    · refine (text_leaf t.k t.m t.r t.s a t.of.length c w (txB (n + 1) t) (Or.inr ⟨h2, ?_⟩)).mono fun e w' h => h
      unfold txB; rw [if_neg h1, if_pos h2]
    rw [if_neg (by omega)] at h
    by_cases h5 : t.k = 5
    · rw [if_pos h5] at h
      simp only [Bool.and_eq_true, decide_eq_true_eq] at h
      have e1 : ((t.s.toNat : Nat) : Int) = t.s := by omega
      have hx := text_num t.m t.r t.s.toNat (by omega) a t.of.length c w
      rw [e1] at hx
      unfold tyV txB
      rw [if_neg h1, if_neg h2, if_neg (by omega), if_pos h5, h5]
      exact hx
    rw [if_neg h5] at h
    by_cases h3 : t.k = 3
    · rw [if_pos h3] at h
      simp only [Bool.and_eq_true, decide_eq_true_eq] at h
      obtain ⟨ab, ao, a', c', rfl, hca, hta⟩ := ha.in0 (by omega)
      have hs := txB_size n (in0 t) h.2.2.2
      have hx := text_box t.m t.r t.s ab ao t.of.length c (in0 t) a' c' w (by omega) hca (txB n (in0 t)) (by omega) (fun V hV => ih (by omega) (in0 t) a' c' V h.2.2.2 hr.2 (hta.kbF hV))
      unfold tyV txB
      rw [if_neg h1, if_neg h2, if_pos h3, h3]
      exact hx
    rw [if_neg h3] at h
    by_cases h4 : t.k = 4
    · rw [if_pos h4] at h
      simp only [Bool.and_eq_true, decide_eq_true_eq] at h
      obtain ⟨ab, ao, a', c', rfl, hca, hta⟩ := ha.in0 (by omega)
      have hs := txB_size n (in0 t) h.2.2.2
      have hx := text_ref t.m t.r t.s (hr.1 h4) ab ao t.of.length c (in0 t) a' c' w (by omega) hca (txB n (in0 t)) (by omega) hs.2 (fun V hV => ih (by omega) (in0 t) a' c' V h.2.2.2 hr.2 (hta.kbF hV))
      unfold tyV txB
      rw [if_neg h1, if_neg h2, if_neg h3, if_neg h5, h4]
      exact hx
    · rw [if_neg h4] at h; cases h
end Go.Proofs.YtaeppaaolkcbbaaGreatDoor

/- print: let, fn. -/
import Derived.Test.YtoophdcagpfmpaaGreatDoorPrK
namespace Go.Proofs.YtoophdcagpfmpaaGreatDoor
open Go.RowKit

set_option maxRecDepth 100000 in
set_option maxHeartbeats 4000000 in
theorem let_1 (X : Nat) (sv v : Value) (out : List ByteArray) (inn : Nat) (at_ : Int) (s : ByteArray) (lb lo lc : Nat) (T : ByteArray) (q0 : Nat) (w : World) (hp : Pg w X sv v out inn) (hi : inn ≤ 20000) (ho : out.length ≤ 1000000) (hs : s.size ≤ 32) (hT : T.size ≤ 5000000) (HKA : ∀ W, KB F0 w W → TxtCall 45 #[sv, .int .i64 q0] W T) (c0 : w.cell? ⟨lb, lo, none⟩ = some (.int .i64 q0)) :
    Calls Tryz.prog 99 #[.pointer (some ⟨X, 0, none⟩), .agg #[.int .u8 14, .int .i64 at_, .int .i64 1, .string s, .slice (some ⟨lb, lo, none⟩) 1 lc]] w (PgEnd w X sv v (out ++ [blB inn ++ ((⟨#[108, 101, 116, 32]⟩ ++ s) ++ (⟨#[58, 32]⟩ ++ T) ++ ⟨#[59]⟩)]) inn) := by
  obtain ⟨w0, rfl⟩ : ∃ w0, w0 = w := ⟨_, rfl⟩
  obtain ⟨W1, hW1⟩ : ∃ W1, W1 = w0.alloc (.cells #[.int .u8 14, .int .i64 at_, .int .i64 1, .string s, .slice (some ⟨lb, lo, none⟩) 1 lc] 44) := ⟨_, rfl⟩
  have k1 : KB F0 w0 W1 := by rw [hW1]; exact (KB.refl _ _).alloc _
  have hbN : W1.heap[w0.heap.size]? = some (.cells #[.int .u8 14, .int .i64 at_, .int .i64 1, .string s, .slice (some ⟨lb, lo, none⟩) 1 lc] 44 (0, 0)) := by rw [hW1]; exact alloc_new _ _
  have p0 := k1.cell (p := ⟨X, 0, none⟩) (fun x => x) (blk_cell hp.blk 0)
  have d2 : W1.cell? ⟨w0.heap.size, 2, none⟩ = some (.int .i64 1) := blk_cell hbN 2
  have d4 : W1.cell? ⟨w0.heap.size, 4, none⟩ = some (.slice (some ⟨lb, lo, none⟩) 1 lc) := blk_cell hbN 4
  have LN := Lib.hid (fun (s : ByteArray) (hs : s.size ≤ 10000000000) (W : World) (hk : KB F0 w0 W) => line_any X sv v out inn s W (hp.kb hk) hi hs (by omega))
  have HB := Lib.hid (And.intro k1 hbN)
  have HW := Lib.hid hW1
  obtain ⟨A, hA⟩ : ∃ A : ByteArray, ⟨#[108, 101, 116, 32]⟩ ++ s = A := ⟨_, rfl⟩
  have sA : A.size = 4 + s.size := by rw [← hA, ByteArray.size_append]; rfl
  have z1 : ¬ (9223372036854775807 < 4 + s.size) := by omega
  rw [hA]
  have HKA := Lib.hid (fun (W : World) (hk : KB F0 w0 W) => HKA W hk)
  have c0 := k1.cell (p := ⟨lb, lo, none⟩) (fun x => x) c0
  obtain ⟨B, hB⟩ : ∃ B : ByteArray, ⟨#[58, 32]⟩ ++ T = B := ⟨_, rfl⟩
  obtain ⟨C, hC⟩ : ∃ C : ByteArray, A ++ B = C := ⟨_, rfl⟩
  have sB : B.size = 2 + T.size := by rw [← hB, ByteArray.size_append]; rfl
  have sC : C.size = A.size + B.size := by rw [← hC, ByteArray.size_append]
  have z2 : ¬ (9223372036854775807 < 2 + T.size) := by omega
  have z3 : ¬ (9223372036854775807 < A.size + B.size) := by omega
  rw [hB, hC]
  obtain ⟨R, hR⟩ : ∃ R : ByteArray, C ++ ⟨#[59]⟩ = R := ⟨_, rfl⟩
  have sR : R.size = C.size + 1 := by rw [← hR, ByteArray.size_append]; rfl
  have z6 : ¬ (9223372036854775807 < C.size + 1) := by omega
  rw [hR]
  have LN := Lib.hid (LN.out R (by omega))
  unfold TxtCall at HKA
  rw [hW1] at p0 d2 d4 c0
  clear hp hW1 k1 hbN sA sR hi ho hs hT sB sC
  go_enter Tryz.func99, Tryz.ntmps99
  go_wp2_with fail
  rw [← HW.out]
  rw [← HW.out] at p0 d2 d4 c0
  refine wp_region_rv 13 GK (kindW [(9, (fun v => v = .string T), (fun _ _ => True))]) (by kernel_rfl) (by kernel_rfl) (kb_trans _) (kb_refl _) (kb_start _ _) (kindW_mono _ (by intro p hp; simp only [List.mem_cons, List.not_mem_nil, or_false] at hp; (subst hp; exact lasts_true))) ?_
  simp only [List.take_succ_cons, List.take_zero, List.drop_succ_cons, List.drop_zero]
  iterate 9 (refine rv_det (by kernel_rfl) rfl (by intro w hG hH; have hc0 := KB.cell hG (fun x => x) (p0); have hc1 := KB.cell hG (fun x => x) (d4); have hc2 := KB.cell hG (fun x => x) (c0); go_simp; first | done | with_reducible rfl) ?_; simp only [Act.put, List.setIfInBounds_toArray, List.set_cons_zero, List.set_cons_succ])
  refine rv_rel (by kernel_rfl) rfl ⟨_, rfl⟩ (by
    intro w hG hH
    refine opVal_call (by go_simp; first | done | exact ⟨⟨rfl, rfl⟩, rfl⟩) ?_
    refine (HKA.out _ (HB.out.1.trans hG)).mono ?_
    rintro e w' ⟨rfl, hq⟩
    exact ⟨_, rfl, rfl, by first | (obtain ⟨nq, rfl⟩ := hq; exact (KB.refl _ _).drewN _) | (subst hq; exact KB.refl _ _) | exact hq, trivial⟩) ?_
  rintro v rfl
  simp only [Act.put, List.setIfInBounds_toArray, List.set_cons_zero, List.set_cons_succ]
  iterate 3 (refine rv_det (by kernel_rfl) rfl (by intro w hG hH; go_simp; first | done | with_reducible rfl) ?_; simp only [Act.put, List.setIfInBounds_toArray, List.set_cons_zero, List.set_cons_succ])
  refine rv_nil (fun w hG hH => ?_)
  have hk2 := HB.out.1.trans hG
  have p0 := hG.cell (p := ⟨X, 0, none⟩) (fun x => x) p0
  have d2 := hG.cell (p := ⟨w0.heap.size, 2, none⟩) (fun x => x) d2
  have d4 := hG.cell (p := ⟨w0.heap.size, 4, none⟩) (fun x => x) d4
  have HK2 := Lib.hid hk2
  clear hG hH hk2 c0
  go_wp2_with fail
  refine (LN.out _ HK2.out).mono ?_
  rintro e w5 ⟨rfl, v5, hp5, ht5⟩
  have H5 := Lib.hid (And.intro hp5 ((PgTo.of HK2.out).trans ht5))
  clear hp5 ht5 LN
  go_wp2_with fail
  go_end0
  exact ⟨rfl, v5, H5.out⟩
set_option maxRecDepth 100000 in
set_option maxHeartbeats 4000000 in
theorem let_2 (X : Nat) (sv v : Value) (out : List ByteArray) (inn : Nat) (at_ : Int) (s : ByteArray) (lb lo lc : Nat) (E : ByteArray) (q1 : Nat) (w : World) (hp : Pg w X sv v out inn) (hi : inn ≤ 20000) (ho : out.length ≤ 1000000) (hs : s.size ≤ 32) (hE : E.size ≤ 5000000) (HWH : ∀ W, KB F0 w W → TxtCall 42 #[sv, .int .i64 q1] W E) (c1 : w.cell? ⟨lb, lo, none⟩ = some (.int .i64 q1)) :
    Calls Tryz.prog 99 #[.pointer (some ⟨X, 0, none⟩), .agg #[.int .u8 14, .int .i64 at_, .int .i64 2, .string s, .slice (some ⟨lb, lo, none⟩) 1 lc]] w (PgEnd w X sv v (out ++ [blB inn ++ ((⟨#[108, 101, 116, 32]⟩ ++ s) ++ (⟨#[32, 61, 32]⟩ ++ E) ++ ⟨#[59]⟩)]) inn) := by
  obtain ⟨w0, rfl⟩ : ∃ w0, w0 = w := ⟨_, rfl⟩
  obtain ⟨W1, hW1⟩ : ∃ W1, W1 = w0.alloc (.cells #[.int .u8 14, .int .i64 at_, .int .i64 2, .string s, .slice (some ⟨lb, lo, none⟩) 1 lc] 44) := ⟨_, rfl⟩
  have k1 : KB F0 w0 W1 := by rw [hW1]; exact (KB.refl _ _).alloc _
  have hbN : W1.heap[w0.heap.size]? = some (.cells #[.int .u8 14, .int .i64 at_, .int .i64 2, .string s, .slice (some ⟨lb, lo, none⟩) 1 lc] 44 (0, 0)) := by rw [hW1]; exact alloc_new _ _
  have p0 := k1.cell (p := ⟨X, 0, none⟩) (fun x => x) (blk_cell hp.blk 0)
  have d2 : W1.cell? ⟨w0.heap.size, 2, none⟩ = some (.int .i64 2) := blk_cell hbN 2
  have d4 : W1.cell? ⟨w0.heap.size, 4, none⟩ = some (.slice (some ⟨lb, lo, none⟩) 1 lc) := blk_cell hbN 4
  have LN := Lib.hid (fun (s : ByteArray) (hs : s.size ≤ 10000000000) (W : World) (hk : KB F0 w0 W) => line_any X sv v out inn s W (hp.kb hk) hi hs (by omega))
  have HB := Lib.hid (And.intro k1 hbN)
  have HW := Lib.hid hW1
  obtain ⟨A, hA⟩ : ∃ A : ByteArray, ⟨#[108, 101, 116, 32]⟩ ++ s = A := ⟨_, rfl⟩
  have sA : A.size = 4 + s.size := by rw [← hA, ByteArray.size_append]; rfl
  have z1 : ¬ (9223372036854775807 < 4 + s.size) := by omega
  rw [hA]
  have HWH := Lib.hid (fun (W : World) (hk : KB F0 w0 W) => HWH W hk)
  have c1 := k1.cell (p := ⟨lb, lo, none⟩) (fun x => x) c1
  obtain ⟨D, hD⟩ : ∃ D : ByteArray, ⟨#[32, 61, 32]⟩ ++ E = D := ⟨_, rfl⟩
  obtain ⟨G, hG⟩ : ∃ G : ByteArray, A ++ D = G := ⟨_, rfl⟩
  have sD : D.size = 3 + E.size := by rw [← hD, ByteArray.size_append]; rfl
  have sG : G.size = A.size + D.size := by rw [← hG, ByteArray.size_append]
  have z4 : ¬ (9223372036854775807 < 3 + E.size) := by omega
  have z5 : ¬ (9223372036854775807 < A.size + D.size) := by omega
  rw [hD, hG]
  obtain ⟨R, hR⟩ : ∃ R : ByteArray, G ++ ⟨#[59]⟩ = R := ⟨_, rfl⟩
  have sR : R.size = G.size + 1 := by rw [← hR, ByteArray.size_append]; rfl
  have z6 : ¬ (9223372036854775807 < G.size + 1) := by omega
  rw [hR]
  have LN := Lib.hid (LN.out R (by omega))
  unfold TxtCall at HWH
  rw [hW1] at p0 d2 d4 c1
  clear hp hW1 k1 hbN sA sR hi ho hs hE sD sG
  go_enter Tryz.func99, Tryz.ntmps99
  go_wp2_with fail
  rw [← HW.out]
  rw [← HW.out] at p0 d2 d4 c1
  refine wp_region_rv 17 GK (kindW [(13, (fun v => v = .string E), (fun _ _ => True))]) (by kernel_rfl) (by kernel_rfl) (kb_trans _) (kb_refl _) (kb_start _ _) (kindW_mono _ (by intro p hp; simp only [List.mem_cons, List.not_mem_nil, or_false] at hp; (subst hp; exact lasts_true))) ?_
  simp only [List.take_succ_cons, List.take_zero, List.drop_succ_cons, List.drop_zero]
  iterate 13 (refine rv_det (by kernel_rfl) rfl (by intro w hG hH; have hc0 := KB.cell hG (fun x => x) (p0); have hc1 := KB.cell hG (fun x => x) (d4); have hc2 := KB.cell hG (fun x => x) (c1); go_simp; first | done | with_reducible rfl) ?_; simp only [Act.put, List.setIfInBounds_toArray, List.set_cons_zero, List.set_cons_succ])
  refine rv_rel (by kernel_rfl) rfl ⟨_, rfl⟩ (by
    intro w hG hH
    refine opVal_call (by go_simp; first | done | exact ⟨⟨rfl, rfl⟩, rfl⟩) ?_
    refine (HWH.out _ (HB.out.1.trans hG)).mono ?_
    rintro e w' ⟨rfl, hq⟩
    exact ⟨_, rfl, rfl, by first | (obtain ⟨nq, rfl⟩ := hq; exact (KB.refl _ _).drewN _) | (subst hq; exact KB.refl _ _) | exact hq, trivial⟩) ?_
  rintro v rfl
  simp only [Act.put, List.setIfInBounds_toArray, List.set_cons_zero, List.set_cons_succ]
  iterate 3 (refine rv_det (by kernel_rfl) rfl (by intro w hG hH; go_simp; first | done | with_reducible rfl) ?_; simp only [Act.put, List.setIfInBounds_toArray, List.set_cons_zero, List.set_cons_succ])
  refine rv_nil (fun w hG hH => ?_)
  have hk3 := HB.out.1.trans hG
  have HK3 := Lib.hid hk3
  clear hG hH hk3 c1
  go_wp2_with fail
  refine (LN.out _ HK3.out).mono ?_
  rintro e w5 ⟨rfl, v5, hp5, ht5⟩
  have H5 := Lib.hid (And.intro hp5 ((PgTo.of HK3.out).trans ht5))
  clear hp5 ht5 LN
  go_wp2_with fail
  go_end0
  exact ⟨rfl, v5, H5.out⟩
set_option maxRecDepth 100000 in
set_option maxHeartbeats 4000000 in
theorem let_3 (X : Nat) (sv v : Value) (out : List ByteArray) (inn : Nat) (at_ : Int) (s : ByteArray) (lb lo lc : Nat) (T : ByteArray) (q0 : Nat) (E : ByteArray) (q1 : Nat) (w : World) (hp : Pg w X sv v out inn) (hi : inn ≤ 20000) (ho : out.length ≤ 1000000) (hs : s.size ≤ 32) (hT : T.size ≤ 5000000) (HKA : ∀ W, KB F0 w W → TxtCall 45 #[sv, .int .i64 q0] W T) (c0 : w.cell? ⟨lb, lo, none⟩ = some (.int .i64 q0)) (hE : E.size ≤ 5000000) (HWH : ∀ W, KB F0 w W → TxtCall 42 #[sv, .int .i64 q1] W E) (c1 : w.cell? ⟨lb, lo + 1, none⟩ = some (.int .i64 q1)) :
    Calls Tryz.prog 99 #[.pointer (some ⟨X, 0, none⟩), .agg #[.int .u8 14, .int .i64 at_, .int .i64 3, .string s, .slice (some ⟨lb, lo, none⟩) 2 lc]] w (PgEnd w X sv v (out ++ [blB inn ++ (((⟨#[108, 101, 116, 32]⟩ ++ s) ++ (⟨#[58, 32]⟩ ++ T)) ++ (⟨#[32, 61, 32]⟩ ++ E) ++ ⟨#[59]⟩)]) inn) := by
  obtain ⟨w0, rfl⟩ : ∃ w0, w0 = w := ⟨_, rfl⟩
  obtain ⟨W1, hW1⟩ : ∃ W1, W1 = w0.alloc (.cells #[.int .u8 14, .int .i64 at_, .int .i64 3, .string s, .slice (some ⟨lb, lo, none⟩) 2 lc] 44) := ⟨_, rfl⟩
  have k1 : KB F0 w0 W1 := by rw [hW1]; exact (KB.refl _ _).alloc _
  have hbN : W1.heap[w0.heap.size]? = some (.cells #[.int .u8 14, .int .i64 at_, .int .i64 3, .string s, .slice (some ⟨lb, lo, none⟩) 2 lc] 44 (0, 0)) := by rw [hW1]; exact alloc_new _ _
  have p0 := k1.cell (p := ⟨X, 0, none⟩) (fun x => x) (blk_cell hp.blk 0)
  have d2 : W1.cell? ⟨w0.heap.size, 2, none⟩ = some (.int .i64 3) := blk_cell hbN 2
  have d4 : W1.cell? ⟨w0.heap.size, 4, none⟩ = some (.slice (some ⟨lb, lo, none⟩) 2 lc) := blk_cell hbN 4
  have LN := Lib.hid (fun (s : ByteArray) (hs : s.size ≤ 10000000000) (W : World) (hk : KB F0 w0 W) => line_any X sv v out inn s W (hp.kb hk) hi hs (by omega))
  have HB := Lib.hid (And.intro k1 hbN)
  have HW := Lib.hid hW1
  obtain ⟨A, hA⟩ : ∃ A : ByteArray, ⟨#[108, 101, 116, 32]⟩ ++ s = A := ⟨_, rfl⟩
  have sA : A.size = 4 + s.size := by rw [← hA, ByteArray.size_append]; rfl
  have z1 : ¬ (9223372036854775807 < 4 + s.size) := by omega
  rw [hA]
  have HKA := Lib.hid (fun (W : World) (hk : KB F0 w0 W) => HKA W hk)
  have c0 := k1.cell (p := ⟨lb, lo, none⟩) (fun x => x) c0
  obtain ⟨B, hB⟩ : ∃ B : ByteArray, ⟨#[58, 32]⟩ ++ T = B := ⟨_, rfl⟩
  obtain ⟨C, hC⟩ : ∃ C : ByteArray, A ++ B = C := ⟨_, rfl⟩
  have sB : B.size = 2 + T.size := by rw [← hB, ByteArray.size_append]; rfl
  have sC : C.size = A.size + B.size := by rw [← hC, ByteArray.size_append]
  have z2 : ¬ (9223372036854775807 < 2 + T.size) := by omega
  have z3 : ¬ (9223372036854775807 < A.size + B.size) := by omega
  rw [hB, hC]
  have HWH := Lib.hid (fun (W : World) (hk : KB F0 w0 W) => HWH W hk)
  have c1 := k1.cell (p := ⟨lb, lo + 1, none⟩) (fun x => x) c1
  obtain ⟨D, hD⟩ : ∃ D : ByteArray, ⟨#[32, 61, 32]⟩ ++ E = D := ⟨_, rfl⟩
  obtain ⟨G, hG⟩ : ∃ G : ByteArray, C ++ D = G := ⟨_, rfl⟩
  have sD : D.size = 3 + E.size := by rw [← hD, ByteArray.size_append]; rfl
  have sG : G.size = C.size + D.size := by rw [← hG, ByteArray.size_append]
  have z4 : ¬ (9223372036854775807 < 3 + E.size) := by omega
  have z5 : ¬ (9223372036854775807 < C.size + D.size) := by omega
  rw [hD, hG]
  obtain ⟨R, hR⟩ : ∃ R : ByteArray, G ++ ⟨#[59]⟩ = R := ⟨_, rfl⟩
  have sR : R.size = G.size + 1 := by rw [← hR, ByteArray.size_append]; rfl
  have z6 : ¬ (9223372036854775807 < G.size + 1) := by omega
  rw [hR]
  have LN := Lib.hid (LN.out R (by omega))
  unfold TxtCall at HKA HWH
  rw [hW1] at p0 d2 d4 c0 c1
  clear hp hW1 k1 hbN sA sR hi ho hs hT sB sC hE sD sG
  go_enter Tryz.func99, Tryz.ntmps99
  go_wp2_with fail
  rw [← HW.out]
  rw [← HW.out] at p0 d2 d4 c0 c1
  refine wp_region_rv 13 GK (kindW [(9, (fun v => v = .string T), (fun _ _ => True))]) (by kernel_rfl) (by kernel_rfl) (kb_trans _) (kb_refl _) (kb_start _ _) (kindW_mono _ (by intro p hp; simp only [List.mem_cons, List.not_mem_nil, or_false] at hp; (subst hp; exact lasts_true))) ?_
  simp only [List.take_succ_cons, List.take_zero, List.drop_succ_cons, List.drop_zero]
  iterate 9 (refine rv_det (by kernel_rfl) rfl (by intro w hG hH; have hc0 := KB.cell hG (fun x => x) (p0); have hc1 := KB.cell hG (fun x => x) (d4); have hc2 := KB.cell hG (fun x => x) (c0); go_simp; first | done | with_reducible rfl) ?_; simp only [Act.put, List.setIfInBounds_toArray, List.set_cons_zero, List.set_cons_succ])
  refine rv_rel (by kernel_rfl) rfl ⟨_, rfl⟩ (by
    intro w hG hH
    refine opVal_call (by go_simp; first | done | exact ⟨⟨rfl, rfl⟩, rfl⟩) ?_
    refine (HKA.out _ (HB.out.1.trans hG)).mono ?_
    rintro e w' ⟨rfl, hq⟩
    exact ⟨_, rfl, rfl, by first | (obtain ⟨nq, rfl⟩ := hq; exact (KB.refl _ _).drewN _) | (subst hq; exact KB.refl _ _) | exact hq, trivial⟩) ?_
  rintro v rfl
  simp only [Act.put, List.setIfInBounds_toArray, List.set_cons_zero, List.set_cons_succ]
  iterate 3 (refine rv_det (by kernel_rfl) rfl (by intro w hG hH; go_simp; first | done | with_reducible rfl) ?_; simp only [Act.put, List.setIfInBounds_toArray, List.set_cons_zero, List.set_cons_succ])
  refine rv_nil (fun w hG hH => ?_)
  have hk2 := HB.out.1.trans hG
  have p0 := hG.cell (p := ⟨X, 0, none⟩) (fun x => x) p0
  have d2 := hG.cell (p := ⟨w0.heap.size, 2, none⟩) (fun x => x) d2
  have d4 := hG.cell (p := ⟨w0.heap.size, 4, none⟩) (fun x => x) d4
  have c1 := hG.cell (p := ⟨lb, lo + 1, none⟩) (fun x => x) c1
  have HK2 := Lib.hid hk2
  clear hG hH hk2 c0
  go_wp2_with fail
  refine wp_region_rv 17 GK (kindW [(13, (fun v => v = .string E), (fun _ _ => True))]) (by kernel_rfl) (by kernel_rfl) (kb_trans _) (kb_refl _) (kb_start _ _) (kindW_mono _ (by intro p hp; simp only [List.mem_cons, List.not_mem_nil, or_false] at hp; (subst hp; exact lasts_true))) ?_
  simp only [List.take_succ_cons, List.take_zero, List.drop_succ_cons, List.drop_zero]
  iterate 13 (refine rv_det (by kernel_rfl) rfl (by intro w hG hH; have hc0 := KB.cell hG (fun x => x) (p0); have hc1 := KB.cell hG (fun x => x) (d4); have hc2 := KB.cell hG (fun x => x) (c1); go_simp; first | done | with_reducible rfl) ?_; simp only [Act.put, List.setIfInBounds_toArray, List.set_cons_zero, List.set_cons_succ])
  refine rv_rel (by kernel_rfl) rfl ⟨_, rfl⟩ (by
    intro w hG hH
    refine opVal_call (by go_simp; first | done | exact ⟨⟨rfl, rfl⟩, rfl⟩) ?_
    refine (HWH.out _ (HK2.out.trans hG)).mono ?_
    rintro e w' ⟨rfl, hq⟩
    exact ⟨_, rfl, rfl, by first | (obtain ⟨nq, rfl⟩ := hq; exact (KB.refl _ _).drewN _) | (subst hq; exact KB.refl _ _) | exact hq, trivial⟩) ?_
  rintro v rfl
  simp only [Act.put, List.setIfInBounds_toArray, List.set_cons_zero, List.set_cons_succ]
  iterate 3 (refine rv_det (by kernel_rfl) rfl (by intro w hG hH; go_simp; first | done | with_reducible rfl) ?_; simp only [Act.put, List.setIfInBounds_toArray, List.set_cons_zero, List.set_cons_succ])
  refine rv_nil (fun w hG hH => ?_)
  have hk3 := HK2.out.trans hG
  have HK3 := Lib.hid hk3
  clear hG hH hk3 c1
  go_wp2_with fail
  refine (LN.out _ HK3.out).mono ?_
  rintro e w5 ⟨rfl, v5, hp5, ht5⟩
  have H5 := Lib.hid (And.intro hp5 ((PgTo.of HK3.out).trans ht5))
  clear hp5 ht5 LN
  go_wp2_with fail
  go_end0
  exact ⟨rfl, v5, H5.out⟩
end Go.Proofs.YtoophdcagpfmpaaGreatDoor

/- print: typed, and the function values within fn. print: let, fn. -/
import Derived.Test.YtoophdcagpfmpaaGreatDoorPrJ
namespace Go.Proofs.YtoophdcagpfmpaaGreatDoor
open Go.RowKit

theorem bnd_kid {ts : List Nd} (h : TOk ts) {p : Nat} (hp : p < ts.length) {i : Nat} (hi : i < (ts.getD p nd0).l.length) : ∃ q : Nat, (ts.getD p nd0).l.getD i 0 = (q : Int) ∧ q < ts.length ∧ bndB ts (ts.getD p nd0) i = ⟨#[39]⟩ ++ (ts.getD q nd0).s ∧ (ts.getD q nd0).s.size ≤ 32 ∧ 1 ≤ wK ts (ts.getD p nd0) i := by
  have e2 := h.kid hp hi
  have h5 := wt1_pos h.good e2.2.1
  exact ⟨_, e2.2.2, e2.2.1, by unfold bndB nmK; rw [if_pos hi], (h.txt e2.2.1).2.1, by rw [wK_at hi]; exact h5.1⟩
theorem bnd_size {ts : List Nd} (h : TOk ts) {p : Nat} (hp : p < ts.length) : (jnK ⟨#[32, 43, 32]⟩ (bndB ts (ts.getD p nd0)) (ts.getD p nd0).l.length).size ≤ 100 * sumK (wK ts (ts.getD p nd0)) (ts.getD p nd0).l.length := jnK_size (fun i hi => by
    obtain ⟨q, h1, h2, h3, h4, h6⟩ := bnd_kid h hp hi
    rw [h3, ByteArray.size_append]
    have e1 : (⟨#[39]⟩ : ByteArray).size = 1 := rfl
    have e2 : (⟨#[32, 43, 32]⟩ : ByteArray).size = 3 := rfl
    omega)
theorem life_size {ts : List Nd} (h : TOk ts) {p : Nat} (hp : p < ts.length) : (lifeB ts p).size + 8 ≤ 200 * wt1 ts p := by
  have hs := (h.txt hp).2.1
  have hws := wK_sum h.good hp (ts.getD p nd0).l.length
  have hwp := wt1_pos h.good hp
  have hjz := bnd_size h hp
  unfold lifeB
  have e1 : (⟨#[39]⟩ : ByteArray).size = 1 := rfl
  have e2 : (⟨#[58, 32]⟩ : ByteArray).size = 2 := rfl
  split
  · simp only [ByteArray.size_append]; omega
  · simp only [ByteArray.size_append]; omega
theorem typed_size {ts : List Nd} (h : TOk ts) {p : Nat} (hp : p < ts.length) : (typedB ts p).size + 8 ≤ 200 * wt1 ts p := by
  have s1 := (h.txt hp).2.1
  have s5 : (⟨#[58, 32]⟩ : ByteArray).size = 2 := rfl
  have s6 := wK_sum h.good hp 1
  have s3 := wt1_pos h.good hp
  simp only [sumK] at s6
  have : (tyK ts (ts.getD p nd0) 0).size ≤ 200 * wK ts (ts.getD p nd0) 0 := by
    unfold tyK wK
    by_cases hi : 0 < (ts.getD p nd0).l.length
    · have e2 := h.kid hp hi
      rw [if_pos hi, if_pos hi]
      have := Ty_size h e2.2.1
      omega
    · rw [if_neg hi, if_neg hi]; exact Nat.le_refl _
  unfold typedB
  simp only [ByteArray.size_append]
  omega
/-- A node with one child that is a type: its cells, its name's length. -/
theorem typed_parts {ts : List Nd} (h : TOk ts) {b off p cap : Nat} {wb : World} (hts : NodesAt wb (some ⟨b, off, none⟩) ts) (hp : p < ts.length) (hk : (ts.getD p nd0).k = 3 ∨ (ts.getD p nd0).k = 7) :
    ∃ lb lo lc q : Nat, wb.cell? ⟨b, off + p * 5 + 3, none⟩ = some (.string (ts.getD p nd0).s) ∧ wb.cell? ⟨b, off + p * 5 + 4, none⟩ = some (.slice (some ⟨lb, lo, none⟩) 1 lc) ∧ wb.cell? ⟨lb, lo, none⟩ = some (.int .i64 q) ∧ q < ts.length ∧
      isTypeB (ts.getD q nd0).k = true ∧ typedB ts p = (ts.getD p nd0).s ++ ⟨#[58, 32]⟩ ++ Ty ts q ∧ (typedB ts p).size ≤ 5000000 ∧ (ts.getD p nd0).s.size ≤ 32 ∧ (Ty ts q).size ≤ 4000000 ∧ p < q := by
  have h1 := h.ty1 hp (by omega)
  have h2 := h.kid hp (i := 0) (by omega)
  obtain ⟨b', off', e, hx⟩ := hts p hp
  simp only [Option.some.injEq, Addr.mk.injEq, and_true] at e
  obtain ⟨rfl, rfl⟩ := e
  obtain ⟨la, lc, hl4, hints, -, -⟩ := hx.l
  obtain ⟨lb, lo, rfl, hcl⟩ := hints 0 (by omega)
  rw [h1.1] at hl4
  rw [h2.2.2, Nat.add_zero] at hcl
  have e1 : typedB ts p = (ts.getD p nd0).s ++ ⟨#[58, 32]⟩ ++ Ty ts (kid (ts.getD p nd0) 0) := by
    unfold typedB tyK; rw [if_pos (by omega)]
  have s1 := (h.txt hp).2.1
  have s2 := Ty_size h h2.2.1
  have s3 := wt1_pos h.good h2.2.1
  have s4 := h.len
  have s5 : (⟨#[58, 32]⟩ : ByteArray).size = 2 := rfl
  exact ⟨lb, lo, lc, _, hx.s, hl4, hcl, h2.2.1, h1.2, e1, by rw [e1, ByteArray.size_append, ByteArray.size_append]; omega, s1, by omega, h2.1⟩
set_option maxRecDepth 100000 in
set_option maxHeartbeats 4000000 in
theorem typed_any (ts : List Nd) (h : TOk ts) (b off cap : Nat) (X p : Nat) (w : World) (hts : NodesAt w (some ⟨b, off, none⟩) ts) (hX : w.cell? ⟨X, 0, none⟩ = some (.slice (some ⟨b, off, none⟩) ts.length cap)) (hp : p < ts.length) (hk : (ts.getD p nd0).k = 3 ∨ (ts.getD p nd0).k = 7) :
    TxtCall 97 #[.pointer (some ⟨X, 0, none⟩), .int .i64 p] w (typedB ts p) := by
  obtain ⟨w0, rfl⟩ : ∃ w0, w0 = w := ⟨_, rfl⟩
  obtain ⟨lb, lo, lc, q, c3, c4, hcl, hq, hqt, he, hz, hs, hC, -⟩ := typed_parts (cap := cap) h hts hp hk
  have KA := Lib.hid (fun (W : World) (hk : KB F0 w0 W) => kind_any5 ts h (some ⟨b, off, none⟩) cap q W hq (hts.kbF hk) hqt)
  rw [he]
  have hlen := h.len
  generalize ts.length = N at hp hX KA hlen
  generalize (ts.getD p nd0).s = s at c3 hs ⊢
  generalize Ty ts q = C at KA hC ⊢
  have hpi : (p : Int) < (N : Int) := by omega
  obtain ⟨A, hA⟩ : ∃ A : ByteArray, s ++ ⟨#[58, 32]⟩ = A := ⟨_, rfl⟩
  have sA : A.size = s.size + 2 := by rw [← hA, ByteArray.size_append]; rfl
  have z1 : ¬ (9223372036854775807 < s.size + 2) := by omega
  have z2 : ¬ (9223372036854775807 < A.size + C.size) := by omega
  rw [hA]
  clear hts he hz hs hC sA hq hqt h hk hp
  unfold TxtCall
  go_enter Tryz.func97, Tryz.ntmps97
  go_wp2_with fail
  refine wp_region_rv 26 GK (kindW [(23, (fun v => v = .string C), (fun _ _ => True))]) (by kernel_rfl) (by kernel_rfl) (kb_trans _) (kb_refl _) (kb_start _ _) (kindW_mono _ (by intro p hp; simp only [List.mem_cons, List.not_mem_nil, or_false] at hp; (subst hp; exact lasts_true))) ?_
  simp only [List.take_succ_cons, List.take_zero, List.drop_succ_cons, List.drop_zero]
  iterate 23 (refine rv_det (by kernel_rfl) rfl (by intro w hG hH; have hc0 := KB.cell hG (fun x => x) (hX); have hc1 := KB.cell hG (fun x => x) (c3); have hc2 := KB.cell hG (fun x => x) (c4); have hc3 := KB.cell hG (fun x => x) (hcl); go_simp; first | done | with_reducible rfl) ?_; simp only [Act.put, List.setIfInBounds_toArray, List.set_cons_zero, List.set_cons_succ])
  refine rv_rel (by kernel_rfl) rfl ⟨_, rfl⟩ (by
    intro w hG hH
    refine opVal_call (by go_simp; first | done | exact ⟨⟨rfl, rfl⟩, rfl⟩) ?_
    refine (KA.out _ hG).mono ?_
    rintro e w' ⟨rfl, hq⟩
    exact ⟨_, rfl, rfl, by first | (obtain ⟨nq, rfl⟩ := hq; exact (KB.refl _ _).drewN _) | (subst hq; exact KB.refl _ _) | exact hq, trivial⟩) ?_
  rintro v rfl
  simp only [Act.put, List.setIfInBounds_toArray, List.set_cons_zero, List.set_cons_succ]
  iterate 2 (refine rv_det (by kernel_rfl) rfl (by intro w hG hH; go_simp; first | done | with_reducible rfl) ?_; simp only [Act.put, List.setIfInBounds_toArray, List.set_cons_zero, List.set_cons_succ])
  refine rv_nil (fun w hG hH => ?_)
  have K := Lib.hid hG
  clear hG hH hX c3 c4 hcl
  go_wp2_with fail
  go_ret
  exact ⟨rfl, K.out⟩
set_option maxRecDepth 100000 in
set_option maxHeartbeats 4000000 in
theorem bnd_any (b off N cap T p : Nat) (s : ByteArray) (w : World) (hT : w.cell? ⟨T, 0, none⟩ = some (.slice (some ⟨b, off, none⟩) N cap)) (c3 : w.cell? ⟨b, off + p * 5 + 3, none⟩ = some (.string s)) (hs : s.size ≤ 32) (hp : p < N) :
    TxtCall 140 #[.int .i64 p, .pointer (some ⟨T, 0, none⟩)] w (⟨#[39]⟩ ++ s) := by
  obtain ⟨w0, rfl⟩ : ∃ w0, w0 = w := ⟨_, rfl⟩
  have hpi : (p : Int) < (N : Int) := by omega
  have z1 : ¬ (9223372036854775807 < 1 + s.size) := by omega
  clear hs
  unfold TxtCall
  go_enter Tryz.func140, Tryz.ntmps140
  go_wp2_with fail
  go_ret
  exact ⟨rfl, KB.refl _ _⟩
set_option maxRecDepth 100000 in
set_option maxHeartbeats 8000000 in
theorem life_any (ts : List Nd) (h : TOk ts) (b off cap T p : Nat) (w : World) (hts : NodesAt w (some ⟨b, off, none⟩) ts) (hT : w.heap[T]? = some (.cells #[.slice (some ⟨b, off, none⟩) ts.length cap] 62 (0, 0))) (hp : p < ts.length) (hk : (ts.getD p nd0).k = 5) :
    TxtCall 139 #[.int .i64 p, .pointer (some ⟨T, 0, none⟩)] w (lifeB ts p) := by
  obtain ⟨w0, rfl⟩ : ∃ w0, w0 = w := ⟨_, rfl⟩
  have hlf := h.life hp hk
  obtain ⟨b', off', e, hx⟩ := hts p hp
  simp only [Option.some.injEq, Addr.mk.injEq, and_true] at e
  obtain ⟨rfl, rfl⟩ := e
  obtain ⟨la, lc, hl4, hints, hlc, hlm⟩ := hx.l
  unfold maxLen at hlm
  have hs := (h.txt hp).2.1
  have c3 := hx.s
  have hlen := h.len
  have hws := wK_sum h.good hp (ts.getD p nd0).l.length
  have hwp := wt1_pos h.good hp
  have hjz := bnd_size h hp
  have TB := Lib.hid (fun (W : World) (hk : KB F0 w0 W) => told_cap (.slice (some ⟨b, off, none⟩) ts.length cap) la (ts.getD p nd0).l.length lc (fun i => (ts.getD p nd0).l.getD i 0) ⟨#[32, 43, 32]⟩ 140 (.pointer (some ⟨T, 0, none⟩)) (bndB ts (ts.getD p nd0)) W (by omega)
      (fun i hi => by
        obtain ⟨lb, lo, e, hc⟩ := hints i hi
        exact ⟨lb, lo, e, hk.cell (p := ⟨lb, lo + i, none⟩) (fun x => x) hc⟩)
      (fun i hi W2 hk2 => by
        obtain ⟨q, h1, h2, h3, h4, h6⟩ := bnd_kid h hp hi
        obtain ⟨b', off', e, hx2⟩ := hts q h2
        simp only [Option.some.injEq, Addr.mk.injEq, and_true] at e
        obtain ⟨rfl, rfl⟩ := e
        rw [h1, h3]
        exact bnd_any b off ts.length cap T q _ W2 (blk_cell ((hk.trans hk2).heap (fun x => x) hT) 0) ((hk.trans hk2).cell (p := ⟨b, _, none⟩) (fun x => x) hx2.s) h4 h2) (by omega) (enters Tryz.func140 (by kernel_rfl) (by kernel_rfl)))
  obtain ⟨r, hr⟩ : ∃ r, r = lifeB ts p := ⟨_, rfl⟩
  rw [← hr]
  unfold lifeB at hr
  generalize jnK ⟨#[32, 43, 32]⟩ (bndB ts (ts.getD p nd0)) (ts.getD p nd0).l.length = J at hr TB hjz
  have e0 := blk_cell hT 0
  generalize (ts.getD p nd0).l.length = M at hr TB hjz hl4 hws
  generalize (ts.getD p nd0).s = s at hr hs c3
  obtain ⟨A, hA⟩ : ∃ A : ByteArray, ⟨#[39]⟩ ++ s = A := ⟨_, rfl⟩
  obtain ⟨B, hB⟩ : ∃ B : ByteArray, ⟨#[58, 32]⟩ ++ J = B := ⟨_, rfl⟩
  have sA : A.size = 1 + s.size := by rw [← hA, ByteArray.size_append]; rfl
  have sB : B.size = 2 + J.size := by rw [← hB, ByteArray.size_append]; rfl
  rw [hA, hB] at hr
  have z1 : ¬ (9223372036854775807 < 1 + s.size) := by omega
  have z2 : ¬ (9223372036854775807 < 2 + J.size) := by omega
  have z3 : ¬ (9223372036854775807 < A.size + B.size) := by omega
  generalize ts.length = N at hp e0 TB
  have hpi : (p : Int) < (N : Int) := by omega
  have HR := Lib.hid hr
  unfold TxtCall
  have e0 : w0.cell? ⟨T, 0, none⟩ = some (.slice (some ⟨b, off, none⟩) N cap) := e0
  clear hr hjz sA sB hs hints hlc hx hts h hk hlf hlen hws hwp hT
  by_cases h0 : 0 < M
  · have hE : A ++ B = r := by rw [HR.out, if_pos h0]
    have t1 : decide (0 < M) = true := decide_eq_true h0
    clear HR
    go_enter Tryz.func139, Tryz.ntmps139
    go_wp2_with fail
    refine wp_region_rv 12 GK (kindW [(8, (fun v => v = .string J), (fun _ _ => True))]) (by kernel_rfl) (by kernel_rfl) (kb_trans _) (kb_refl _) (kb_start _ _) (kindW_mono _ (by intro p hp; simp only [List.mem_cons, List.not_mem_nil, or_false] at hp; (subst hp; exact lasts_true))) ?_
    simp only [List.take_succ_cons, List.take_zero, List.drop_succ_cons, List.drop_zero]
    iterate 8 (refine rv_det (by kernel_rfl) rfl (by intro w hG hH; have hc0 := KB.cell hG (fun x => x) (e0); have hc1 := KB.cell hG (fun x => x) (hl4); go_simp; first | done | with_reducible rfl) ?_; simp only [Act.put, List.setIfInBounds_toArray, List.set_cons_zero, List.set_cons_succ])
    refine rv_rel (by kernel_rfl) rfl ⟨_, rfl⟩ (by
      intro w hG hH
      refine opVal_call (by go_simp; first | done | exact ⟨⟨rfl, rfl⟩, rfl⟩) ?_
      refine (TB.out _ hG).mono ?_
      rintro e w' ⟨rfl, hq⟩
      exact ⟨_, rfl, rfl, by first | (obtain ⟨nq, rfl⟩ := hq; exact (KB.refl _ _).drewN _) | (subst hq; exact KB.refl _ _) | exact hq, trivial⟩) ?_
    rintro v rfl
    simp only [Act.put, List.setIfInBounds_toArray, List.set_cons_zero, List.set_cons_succ]
    iterate 3 (refine rv_det (by kernel_rfl) rfl (by intro w hG hH; go_simp; first | done | with_reducible rfl) ?_; simp only [Act.put, List.setIfInBounds_toArray, List.set_cons_zero, List.set_cons_succ])
    refine rv_nil (fun w hG hH => ?_)
    have K := Lib.hid hG
    clear hG hH e0 hl4 c3
    go_wp2_with fail
    go_ret
    exact ⟨rfl, K.out⟩
  · have hE : Hid (r = A) := Lib.hid (by rw [HR.out, if_neg h0])
    have t1 : decide (0 < M) = false := decide_eq_false h0
    clear HR
    go_enter Tryz.func139, Tryz.ntmps139
    go_wp2_with fail
    go_ret
    exact ⟨ret_eq (by rw [hE.out]; rfl), KB.refl _ _⟩
end Go.Proofs.YtoophdcagpfmpaaGreatDoor

namespace Go.Proofs.YtoophdcagpfmpaaGreatDoor
open Go.RowKit

set_option maxRecDepth 100000 in
set_option maxHeartbeats 4000000 in
theorem let_1 (X : Nat) (sv v : Value) (out : List ByteArray) (inn : Nat) (at_ : Int) (s : ByteArray) (lb lo lc : Nat) (T : ByteArray) (q0 : Nat) (w : World) (hp : Pg w X sv v out inn) (hi : inn ≤ 20000) (ho : out.length ≤ 1000000) (hs : s.size ≤ 32) (hT : T.size ≤ 5000000) (HKA : ∀ W, KB F0 w W → TxtCall 45 #[sv, .int .i64 q0] W T) (c0 : w.cell? ⟨lb, lo, none⟩ = some (.int .i64 q0)) :
    Calls Tryz.prog 99 #[.pointer (some ⟨X, 0, none⟩), .agg #[.int .u8 14, .int .i64 at_, .int .i64 1, .string s, .slice (some ⟨lb, lo, none⟩) 1 lc]] w (PgEnd w X sv v (out ++ [blB inn ++ ((⟨#[108, 101, 116, 32]⟩ ++ s) ++ (⟨#[58, 32]⟩ ++ T) ++ ⟨#[59]⟩)]) inn) := by
  obtain ⟨w0, rfl⟩ : ∃ w0, w0 = w := ⟨_, rfl⟩
  obtain ⟨W1, hW1⟩ : ∃ W1, W1 = w0.alloc (.cells #[.int .u8 14, .int .i64 at_, .int .i64 1, .string s, .slice (some ⟨lb, lo, none⟩) 1 lc] 44) := ⟨_, rfl⟩
  have k1 : KB F0 w0 W1 := by rw [hW1]; exact (KB.refl _ _).alloc _
  have hbN : W1.heap[w0.heap.size]? = some (.cells #[.int .u8 14, .int .i64 at_, .int .i64 1, .string s, .slice (some ⟨lb, lo, none⟩) 1 lc] 44 (0, 0)) := by rw [hW1]; exact alloc_new _ _
  have p0 := k1.cell (p := ⟨X, 0, none⟩) (fun x => x) (blk_cell hp.blk 0)
  have d2 : W1.cell? ⟨w0.heap.size, 2, none⟩ = some (.int .i64 1) := blk_cell hbN 2
  have d4 : W1.cell? ⟨w0.heap.size, 4, none⟩ = some (.slice (some ⟨lb, lo, none⟩) 1 lc) := blk_cell hbN 4
  have LN := Lib.hid (fun (s : ByteArray) (hs : s.size ≤ 10000000000) (W : World) (hk : KB F0 w0 W) => line_any X sv v out inn s W (hp.kb hk) hi hs (by omega))
  have HB := Lib.hid (And.intro k1 hbN)
  have HW := Lib.hid hW1
  obtain ⟨A, hA⟩ : ∃ A : ByteArray, ⟨#[108, 101, 116, 32]⟩ ++ s = A := ⟨_, rfl⟩
  have sA : A.size = 4 + s.size := by rw [← hA, ByteArray.size_append]; rfl
  have z1 : ¬ (9223372036854775807 < 4 + s.size) := by omega
  rw [hA]
  have HKA := Lib.hid (fun (W : World) (hk : KB F0 w0 W) => HKA W hk)
  have c0 := k1.cell (p := ⟨lb, lo, none⟩) (fun x => x) c0
  obtain ⟨B, hB⟩ : ∃ B : ByteArray, ⟨#[58, 32]⟩ ++ T = B := ⟨_, rfl⟩
  obtain ⟨C, hC⟩ : ∃ C : ByteArray, A ++ B = C := ⟨_, rfl⟩
  have sB : B.size = 2 + T.size := by rw [← hB, ByteArray.size_append]; rfl
  have sC : C.size = A.size + B.size := by rw [← hC, ByteArray.size_append]
  have z2 : ¬ (9223372036854775807 < 2 + T.size) := by omega
  have z3 : ¬ (9223372036854775807 < A.size + B.size) := by omega
  rw [hB, hC]
  obtain ⟨R, hR⟩ : ∃ R : ByteArray, C ++ ⟨#[59]⟩ = R := ⟨_, rfl⟩
  have sR : R.size = C.size + 1 := by rw [← hR, ByteArray.size_append]; rfl
  have z6 : ¬ (9223372036854775807 < C.size + 1) := by omega
  rw [hR]
  have LN := Lib.hid (LN.out R (by omega))
  unfold TxtCall at HKA
  rw [hW1] at p0 d2 d4 c0
  clear hp hW1 k1 hbN sA sR hi ho hs hT sB sC
  go_enter Tryz.func99, Tryz.ntmps99
  go_wp2_with fail
  rw [← HW.out]
  rw [← HW.out] at p0 d2 d4 c0
  refine wp_region_rv 13 GK (kindW [(9, (fun v => v = .string T), (fun _ _ => True))]) (by kernel_rfl) (by kernel_rfl) (kb_trans _) (kb_refl _) (kb_start _ _) (kindW_mono _ (by intro p hp; simp only [List.mem_cons, List.not_mem_nil, or_false] at hp; (subst hp; exact lasts_true))) ?_
  simp only [List.take_succ_cons, List.take_zero, List.drop_succ_cons, List.drop_zero]
  iterate 9 (refine rv_det (by kernel_rfl) rfl (by intro w hG hH; have hc0 := KB.cell hG (fun x => x) (p0); have hc1 := KB.cell hG (fun x => x) (d4); have hc2 := KB.cell hG (fun x => x) (c0); go_simp; first | done | with_reducible rfl) ?_; simp only [Act.put, List.setIfInBounds_toArray, List.set_cons_zero, List.set_cons_succ])
  refine rv_rel (by kernel_rfl) rfl ⟨_, rfl⟩ (by
    intro w hG hH
    refine opVal_call (by go_simp; first | done | exact ⟨⟨rfl, rfl⟩, rfl⟩) ?_
    refine (HKA.out _ (HB.out.1.trans hG)).mono ?_
    rintro e w' ⟨rfl, hq⟩
    exact ⟨_, rfl, rfl, by first | (obtain ⟨nq, rfl⟩ := hq; exact (KB.refl _ _).drewN _) | (subst hq; exact KB.refl _ _) | exact hq, trivial⟩) ?_
  rintro v rfl
  simp only [Act.put, List.setIfInBounds_toArray, List.set_cons_zero, List.set_cons_succ]
  iterate 3 (refine rv_det (by kernel_rfl) rfl (by intro w hG hH; go_simp; first | done | with_reducible rfl) ?_; simp only [Act.put, List.setIfInBounds_toArray, List.set_cons_zero, List.set_cons_succ])
  refine rv_nil (fun w hG hH => ?_)
  have hk2 := HB.out.1.trans hG
  have p0 := hG.cell (p := ⟨X, 0, none⟩) (fun x => x) p0
  have d2 := hG.cell (p := ⟨w0.heap.size, 2, none⟩) (fun x => x) d2
  have d4 := hG.cell (p := ⟨w0.heap.size, 4, none⟩) (fun x => x) d4
  have HK2 := Lib.hid hk2
  clear hG hH hk2 c0
  go_wp2_with fail
  refine (LN.out _ HK2.out).mono ?_
  rintro e w5 ⟨rfl, v5, hp5, ht5⟩
  have H5 := Lib.hid (And.intro hp5 ((PgTo.of HK2.out).trans ht5))
  clear hp5 ht5 LN
  go_wp2_with fail
  go_end0
  exact ⟨rfl, v5, H5.out⟩
set_option maxRecDepth 100000 in
set_option maxHeartbeats 4000000 in
theorem let_2 (X : Nat) (sv v : Value) (out : List ByteArray) (inn : Nat) (at_ : Int) (s : ByteArray) (lb lo lc : Nat) (E : ByteArray) (q1 : Nat) (w : World) (hp : Pg w X sv v out inn) (hi : inn ≤ 20000) (ho : out.length ≤ 1000000) (hs : s.size ≤ 32) (hE : E.size ≤ 5000000) (HWH : ∀ W, KB F0 w W → TxtCall 42 #[sv, .int .i64 q1] W E) (c1 : w.cell? ⟨lb, lo, none⟩ = some (.int .i64 q1)) :
    Calls Tryz.prog 99 #[.pointer (some ⟨X, 0, none⟩), .agg #[.int .u8 14, .int .i64 at_, .int .i64 2, .string s, .slice (some ⟨lb, lo, none⟩) 1 lc]] w (PgEnd w X sv v (out ++ [blB inn ++ ((⟨#[108, 101, 116, 32]⟩ ++ s) ++ (⟨#[32, 61, 32]⟩ ++ E) ++ ⟨#[59]⟩)]) inn) := by
  obtain ⟨w0, rfl⟩ : ∃ w0, w0 = w := ⟨_, rfl⟩
  obtain ⟨W1, hW1⟩ : ∃ W1, W1 = w0.alloc (.cells #[.int .u8 14, .int .i64 at_, .int .i64 2, .string s, .slice (some ⟨lb, lo, none⟩) 1 lc] 44) := ⟨_, rfl⟩
  have k1 : KB F0 w0 W1 := by rw [hW1]; exact (KB.refl _ _).alloc _
  have hbN : W1.heap[w0.heap.size]? = some (.cells #[.int .u8 14, .int .i64 at_, .int .i64 2, .string s, .slice (some ⟨lb, lo, none⟩) 1 lc] 44 (0, 0)) := by rw [hW1]; exact alloc_new _ _
  have p0 := k1.cell (p := ⟨X, 0, none⟩) (fun x => x) (blk_cell hp.blk 0)
  have d2 : W1.cell? ⟨w0.heap.size, 2, none⟩ = some (.int .i64 2) := blk_cell hbN 2
  have d4 : W1.cell? ⟨w0.heap.size, 4, none⟩ = some (.slice (some ⟨lb, lo, none⟩) 1 lc) := blk_cell hbN 4
  have LN := Lib.hid (fun (s : ByteArray) (hs : s.size ≤ 10000000000) (W : World) (hk : KB F0 w0 W) => line_any X sv v out inn s W (hp.kb hk) hi hs (by omega))
  have HB := Lib.hid (And.intro k1 hbN)
  have HW := Lib.hid hW1
  obtain ⟨A, hA⟩ : ∃ A : ByteArray, ⟨#[108, 101, 116, 32]⟩ ++ s = A := ⟨_, rfl⟩
  have sA : A.size = 4 + s.size := by rw [← hA, ByteArray.size_append]; rfl
  have z1 : ¬ (9223372036854775807 < 4 + s.size) := by omega
  rw [hA]
  have HWH := Lib.hid (fun (W : World) (hk : KB F0 w0 W) => HWH W hk)
  have c1 := k1.cell (p := ⟨lb, lo, none⟩) (fun x => x) c1
  obtain ⟨D, hD⟩ : ∃ D : ByteArray, ⟨#[32, 61, 32]⟩ ++ E = D := ⟨_, rfl⟩
  obtain ⟨G, hG⟩ : ∃ G : ByteArray, A ++ D = G := ⟨_, rfl⟩
  have sD : D.size = 3 + E.size := by rw [← hD, ByteArray.size_append]; rfl
  have sG : G.size = A.size + D.size := by rw [← hG, ByteArray.size_append]
  have z4 : ¬ (9223372036854775807 < 3 + E.size) := by omega
  have z5 : ¬ (9223372036854775807 < A.size + D.size) := by omega
  rw [hD, hG]
  obtain ⟨R, hR⟩ : ∃ R : ByteArray, G ++ ⟨#[59]⟩ = R := ⟨_, rfl⟩
  have sR : R.size = G.size + 1 := by rw [← hR, ByteArray.size_append]; rfl
  have z6 : ¬ (9223372036854775807 < G.size + 1) := by omega
  rw [hR]
  have LN := Lib.hid (LN.out R (by omega))
  unfold TxtCall at HWH
  rw [hW1] at p0 d2 d4 c1
  clear hp hW1 k1 hbN sA sR hi ho hs hE sD sG
  go_enter Tryz.func99, Tryz.ntmps99
  go_wp2_with fail
  rw [← HW.out]
  rw [← HW.out] at p0 d2 d4 c1
  refine wp_region_rv 17 GK (kindW [(13, (fun v => v = .string E), (fun _ _ => True))]) (by kernel_rfl) (by kernel_rfl) (kb_trans _) (kb_refl _) (kb_start _ _) (kindW_mono _ (by intro p hp; simp only [List.mem_cons, List.not_mem_nil, or_false] at hp; (subst hp; exact lasts_true))) ?_
  simp only [List.take_succ_cons, List.take_zero, List.drop_succ_cons, List.drop_zero]
  iterate 13 (refine rv_det (by kernel_rfl) rfl (by intro w hG hH; have hc0 := KB.cell hG (fun x => x) (p0); have hc1 := KB.cell hG (fun x => x) (d4); have hc2 := KB.cell hG (fun x => x) (c1); go_simp; first | done | with_reducible rfl) ?_; simp only [Act.put, List.setIfInBounds_toArray, List.set_cons_zero, List.set_cons_succ])
  refine rv_rel (by kernel_rfl) rfl ⟨_, rfl⟩ (by
    intro w hG hH
    refine opVal_call (by go_simp; first | done | exact ⟨⟨rfl, rfl⟩, rfl⟩) ?_
    refine (HWH.out _ (HB.out.1.trans hG)).mono ?_
    rintro e w' ⟨rfl, hq⟩
    exact ⟨_, rfl, rfl, by first | (obtain ⟨nq, rfl⟩ := hq; exact (KB.refl _ _).drewN _) | (subst hq; exact KB.refl _ _) | exact hq, trivial⟩) ?_
  rintro v rfl
  simp only [Act.put, List.setIfInBounds_toArray, List.set_cons_zero, List.set_cons_succ]
  iterate 3 (refine rv_det (by kernel_rfl) rfl (by intro w hG hH; go_simp; first | done | with_reducible rfl) ?_; simp only [Act.put, List.setIfInBounds_toArray, List.set_cons_zero, List.set_cons_succ])
  refine rv_nil (fun w hG hH => ?_)
  have hk3 := HB.out.1.trans hG
  have HK3 := Lib.hid hk3
  clear hG hH hk3 c1
  go_wp2_with fail
  refine (LN.out _ HK3.out).mono ?_
  rintro e w5 ⟨rfl, v5, hp5, ht5⟩
  have H5 := Lib.hid (And.intro hp5 ((PgTo.of HK3.out).trans ht5))
  clear hp5 ht5 LN
  go_wp2_with fail
  go_end0
  exact ⟨rfl, v5, H5.out⟩
set_option maxRecDepth 100000 in
set_option maxHeartbeats 4000000 in
theorem let_3 (X : Nat) (sv v : Value) (out : List ByteArray) (inn : Nat) (at_ : Int) (s : ByteArray) (lb lo lc : Nat) (T : ByteArray) (q0 : Nat) (E : ByteArray) (q1 : Nat) (w : World) (hp : Pg w X sv v out inn) (hi : inn ≤ 20000) (ho : out.length ≤ 1000000) (hs : s.size ≤ 32) (hT : T.size ≤ 5000000) (HKA : ∀ W, KB F0 w W → TxtCall 45 #[sv, .int .i64 q0] W T) (c0 : w.cell? ⟨lb, lo, none⟩ = some (.int .i64 q0)) (hE : E.size ≤ 5000000) (HWH : ∀ W, KB F0 w W → TxtCall 42 #[sv, .int .i64 q1] W E) (c1 : w.cell? ⟨lb, lo + 1, none⟩ = some (.int .i64 q1)) :
    Calls Tryz.prog 99 #[.pointer (some ⟨X, 0, none⟩), .agg #[.int .u8 14, .int .i64 at_, .int .i64 3, .string s, .slice (some ⟨lb, lo, none⟩) 2 lc]] w (PgEnd w X sv v (out ++ [blB inn ++ (((⟨#[108, 101, 116, 32]⟩ ++ s) ++ (⟨#[58, 32]⟩ ++ T)) ++ (⟨#[32, 61, 32]⟩ ++ E) ++ ⟨#[59]⟩)]) inn) := by
  obtain ⟨w0, rfl⟩ : ∃ w0, w0 = w := ⟨_, rfl⟩
  obtain ⟨W1, hW1⟩ : ∃ W1, W1 = w0.alloc (.cells #[.int .u8 14, .int .i64 at_, .int .i64 3, .string s, .slice (some ⟨lb, lo, none⟩) 2 lc] 44) := ⟨_, rfl⟩
  have k1 : KB F0 w0 W1 := by rw [hW1]; exact (KB.refl _ _).alloc _
  have hbN : W1.heap[w0.heap.size]? = some (.cells #[.int .u8 14, .int .i64 at_, .int .i64 3, .string s, .slice (some ⟨lb, lo, none⟩) 2 lc] 44 (0, 0)) := by rw [hW1]; exact alloc_new _ _
  have p0 := k1.cell (p := ⟨X, 0, none⟩) (fun x => x) (blk_cell hp.blk 0)
  have d2 : W1.cell? ⟨w0.heap.size, 2, none⟩ = some (.int .i64 3) := blk_cell hbN 2
  have d4 : W1.cell? ⟨w0.heap.size, 4, none⟩ = some (.slice (some ⟨lb, lo, none⟩) 2 lc) := blk_cell hbN 4
  have LN := Lib.hid (fun (s : ByteArray) (hs : s.size ≤ 10000000000) (W : World) (hk : KB F0 w0 W) => line_any X sv v out inn s W (hp.kb hk) hi hs (by omega))
  have HB := Lib.hid (And.intro k1 hbN)
  have HW := Lib.hid hW1
  obtain ⟨A, hA⟩ : ∃ A : ByteArray, ⟨#[108, 101, 116, 32]⟩ ++ s = A := ⟨_, rfl⟩
  have sA : A.size = 4 + s.size := by rw [← hA, ByteArray.size_append]; rfl
  have z1 : ¬ (9223372036854775807 < 4 + s.size) := by omega
  rw [hA]
  have HKA := Lib.hid (fun (W : World) (hk : KB F0 w0 W) => HKA W hk)
  have c0 := k1.cell (p := ⟨lb, lo, none⟩) (fun x => x) c0
  obtain ⟨B, hB⟩ : ∃ B : ByteArray, ⟨#[58, 32]⟩ ++ T = B := ⟨_, rfl⟩
  obtain ⟨C, hC⟩ : ∃ C : ByteArray, A ++ B = C := ⟨_, rfl⟩
  have sB : B.size = 2 + T.size := by rw [← hB, ByteArray.size_append]; rfl
  have sC : C.size = A.size + B.size := by rw [← hC, ByteArray.size_append]
  have z2 : ¬ (9223372036854775807 < 2 + T.size) := by omega
  have z3 : ¬ (9223372036854775807 < A.size + B.size) := by omega
  rw [hB, hC]
  have HWH := Lib.hid (fun (W : World) (hk : KB F0 w0 W) => HWH W hk)
  have c1 := k1.cell (p := ⟨lb, lo + 1, none⟩) (fun x => x) c1
  obtain ⟨D, hD⟩ : ∃ D : ByteArray, ⟨#[32, 61, 32]⟩ ++ E = D := ⟨_, rfl⟩
  obtain ⟨G, hG⟩ : ∃ G : ByteArray, C ++ D = G := ⟨_, rfl⟩
  have sD : D.size = 3 + E.size := by rw [← hD, ByteArray.size_append]; rfl
  have sG : G.size = C.size + D.size := by rw [← hG, ByteArray.size_append]
  have z4 : ¬ (9223372036854775807 < 3 + E.size) := by omega
  have z5 : ¬ (9223372036854775807 < C.size + D.size) := by omega
  rw [hD, hG]
  obtain ⟨R, hR⟩ : ∃ R : ByteArray, G ++ ⟨#[59]⟩ = R := ⟨_, rfl⟩
  have sR : R.size = G.size + 1 := by rw [← hR, ByteArray.size_append]; rfl
  have z6 : ¬ (9223372036854775807 < G.size + 1) := by omega
  rw [hR]
  have LN := Lib.hid (LN.out R (by omega))
  unfold TxtCall at HKA HWH
  rw [hW1] at p0 d2 d4 c0 c1
  clear hp hW1 k1 hbN sA sR hi ho hs hT sB sC hE sD sG
  go_enter Tryz.func99, Tryz.ntmps99
  go_wp2_with fail
  rw [← HW.out]
  rw [← HW.out] at p0 d2 d4 c0 c1
  refine wp_region_rv 13 GK (kindW [(9, (fun v => v = .string T), (fun _ _ => True))]) (by kernel_rfl) (by kernel_rfl) (kb_trans _) (kb_refl _) (kb_start _ _) (kindW_mono _ (by intro p hp; simp only [List.mem_cons, List.not_mem_nil, or_false] at hp; (subst hp; exact lasts_true))) ?_
  simp only [List.take_succ_cons, List.take_zero, List.drop_succ_cons, List.drop_zero]
  iterate 9 (refine rv_det (by kernel_rfl) rfl (by intro w hG hH; have hc0 := KB.cell hG (fun x => x) (p0); have hc1 := KB.cell hG (fun x => x) (d4); have hc2 := KB.cell hG (fun x => x) (c0); go_simp; first | done | with_reducible rfl) ?_; simp only [Act.put, List.setIfInBounds_toArray, List.set_cons_zero, List.set_cons_succ])
  refine rv_rel (by kernel_rfl) rfl ⟨_, rfl⟩ (by
    intro w hG hH
    refine opVal_call (by go_simp; first | done | exact ⟨⟨rfl, rfl⟩, rfl⟩) ?_
    refine (HKA.out _ (HB.out.1.trans hG)).mono ?_
    rintro e w' ⟨rfl, hq⟩
    exact ⟨_, rfl, rfl, by first | (obtain ⟨nq, rfl⟩ := hq; exact (KB.refl _ _).drewN _) | (subst hq; exact KB.refl _ _) | exact hq, trivial⟩) ?_
  rintro v rfl
  simp only [Act.put, List.setIfInBounds_toArray, List.set_cons_zero, List.set_cons_succ]
  iterate 3 (refine rv_det (by kernel_rfl) rfl (by intro w hG hH; go_simp; first | done | with_reducible rfl) ?_; simp only [Act.put, List.setIfInBounds_toArray, List.set_cons_zero, List.set_cons_succ])
  refine rv_nil (fun w hG hH => ?_)
  have hk2 := HB.out.1.trans hG
  have p0 := hG.cell (p := ⟨X, 0, none⟩) (fun x => x) p0
  have d2 := hG.cell (p := ⟨w0.heap.size, 2, none⟩) (fun x => x) d2
  have d4 := hG.cell (p := ⟨w0.heap.size, 4, none⟩) (fun x => x) d4
  have c1 := hG.cell (p := ⟨lb, lo + 1, none⟩) (fun x => x) c1
  have HK2 := Lib.hid hk2
  clear hG hH hk2 c0
  go_wp2_with fail
  refine wp_region_rv 17 GK (kindW [(13, (fun v => v = .string E), (fun _ _ => True))]) (by kernel_rfl) (by kernel_rfl) (kb_trans _) (kb_refl _) (kb_start _ _) (kindW_mono _ (by intro p hp; simp only [List.mem_cons, List.not_mem_nil, or_false] at hp; (subst hp; exact lasts_true))) ?_
  simp only [List.take_succ_cons, List.take_zero, List.drop_succ_cons, List.drop_zero]
  iterate 13 (refine rv_det (by kernel_rfl) rfl (by intro w hG hH; have hc0 := KB.cell hG (fun x => x) (p0); have hc1 := KB.cell hG (fun x => x) (d4); have hc2 := KB.cell hG (fun x => x) (c1); go_simp; first | done | with_reducible rfl) ?_; simp only [Act.put, List.setIfInBounds_toArray, List.set_cons_zero, List.set_cons_succ])
  refine rv_rel (by kernel_rfl) rfl ⟨_, rfl⟩ (by
    intro w hG hH
    refine opVal_call (by go_simp; first | done | exact ⟨⟨rfl, rfl⟩, rfl⟩) ?_
    refine (HWH.out _ (HK2.out.trans hG)).mono ?_
    rintro e w' ⟨rfl, hq⟩
    exact ⟨_, rfl, rfl, by first | (obtain ⟨nq, rfl⟩ := hq; exact (KB.refl _ _).drewN _) | (subst hq; exact KB.refl _ _) | exact hq, trivial⟩) ?_
  rintro v rfl
  simp only [Act.put, List.setIfInBounds_toArray, List.set_cons_zero, List.set_cons_succ]
  iterate 3 (refine rv_det (by kernel_rfl) rfl (by intro w hG hH; go_simp; first | done | with_reducible rfl) ?_; simp only [Act.put, List.setIfInBounds_toArray, List.set_cons_zero, List.set_cons_succ])
  refine rv_nil (fun w hG hH => ?_)
  have hk3 := HK2.out.trans hG
  have HK3 := Lib.hid hk3
  clear hG hH hk3 c1
  go_wp2_with fail
  refine (LN.out _ HK3.out).mono ?_
  rintro e w5 ⟨rfl, v5, hp5, ht5⟩
  have H5 := Lib.hid (And.intro hp5 ((PgTo.of HK3.out).trans ht5))
  clear hp5 ht5 LN
  go_wp2_with fail
  go_end0
  exact ⟨rfl, v5, H5.out⟩
end Go.Proofs.YtoophdcagpfmpaaGreatDoor

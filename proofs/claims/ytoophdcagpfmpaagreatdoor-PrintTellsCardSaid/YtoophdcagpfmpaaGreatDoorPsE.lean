/- loanwordref05: iff. -/
import Derived.Test.YtoophdcagpfmpaaGreatDoorPsD
namespace Go.Proofs.YtoophdcagpfmpaaGreatDoor
open Go.RowKit

set_option maxRecDepth 100000 in
set_option maxHeartbeats 16000000 in
theorem riff_step (ts : List Nd) (h : TOk ts) (hok : ∀ x ∈ ts, NdOk x) (a : Option Addr) (cap : Nat) (wb : World) (n : Nat) (hts : NodesAt wb a ts) (hT : PT wb) (hi : n < ts.length) (ihB : ∀ q, n < q → q < ts.length → RBlk ts a cap wb q) (ihC : ∀ q, n < q → q < ts.length → RIff ts a cap wb q) : RIff ts a cap wb n := by
  intro w inn head hb hk16 hin hhd
  obtain ⟨w0, rfl⟩ : ∃ w0, w0 = w := ⟨_, rfl⟩
  have hlen := h.len
  have hif := h.if_ hi hk16
  have hsi := St_if h hi hk16 inn (blB inn ++ head)
  have hl2 : 2 ≤ (ts.getD n nd0).l.length := by rcases hif.2.2 with e | e <;> omega
  have e0 := h.kid hi (i := 0) (by omega)
  have e1 := h.kid hi (i := 1) (by omega)
  have hx0 : exK ts (ts.getD n nd0) 0 = Ex ts (kid (ts.getD n nd0) 0) 1 := if_pos (by omega)
  have hz := Ex_size h hok 1 e0.2.1
  have hz2 := wt1_pos h.good e0.2.1
  have hzB := wt1_pos h.good e1.2.1
  have hlB := fun P => St_len h e1.2.1 inn P
  have hBk := St_block h e1.2.1 hif.2.1
  have WH := Lib.hid (fun (W : World) (hk : KB F0 wb W) => rexpr_any ts h hok a cap _ 1 W e0.2.1 (by omega) (hts.kbF hk) (hT.kb hk) hif.1)
  have BL := Lib.hid (fun (W : World) (hd : ByteArray) (hk : KB F0 wb W) (hs : hd.size ≤ 1000000000) => ihB _ e1.1 e1.2.1 W inn hd hk hif.2.1 (by omega) hs)
  have hk2 : (ts.getD n nd0).n = 1 → ∃ q2 : Nat, 2 < (ts.getD n nd0).l.length ∧ (ts.getD n nd0).l.getD 2 0 = (q2 : Int) ∧ q2 < ts.length ∧ kid (ts.getD n nd0) 2 = q2 ∧ ((ts.getD q2 nd0).k = 13 ∨ (ts.getD q2 nd0).k = 16) ∧ (∀ P, 1 ≤ (St5 ts q2 inn P).length) ∧ (∀ P, (St5 ts q2 inn P).length ≤ 100000) ∧
      (∀ W, KB F0 wb W → (ts.getD q2 nd0).k = 13 → Calls Tryz.prog 79 #[.agg #[.slice a ts.length cap], .int .i64 q2, .int .i64 inn, .string ⟨#[125, 32, 101, 108, 115, 101, 32]⟩, .string ⟨#[]⟩] W (LnEnd W (St5 ts q2 inn (blB inn ++ ⟨#[125, 32, 101, 108, 115, 101, 32]⟩)))) ∧
      (∀ W, KB F0 wb W → (ts.getD q2 nd0).k = 16 → Calls Tryz.prog 80 #[.agg #[.slice a ts.length cap], .int .i64 q2, .int .i64 inn, .string ⟨#[125, 32, 101, 108, 115, 101, 32]⟩] W (LnEnd W (St5 ts q2 inn (blB inn ++ ⟨#[125, 32, 101, 108, 115, 101, 32]⟩)))) ∧ ∃ b off, a = some ⟨b, off, none⟩ ∧ wb.cell? ⟨b, off + q2 * 5, none⟩ = some (.int .u8 ((ts.getD q2 nd0).k : Nat)) := fun e => by
    rcases hif.2.2 with f | f
    · omega
    have e2 := h.kid hi (i := 2) (by omega)
    obtain ⟨b, off, ha, hx2⟩ := hts _ e2.2.1
    have hst : isStmtB (ts.getD (kid (ts.getD n nd0) 2) nd0).k = true := by rcases f.2.2 with g | g <;> rw [g] <;> rfl
    have hq := e2.1
    have hw2 := wt1_pos h.good e2.2.1
    exact ⟨_, by omega, e2.2.2, e2.2.1, rfl, f.2.2, fun P => St_pos h e2.2.1 hst _ _, fun P => by have := St_len h e2.2.1 inn P; omega, fun W hk e => ihB _ hq e2.2.1 W inn _ hk e (by omega) (by decide), fun W hk e => ihC _ hq e2.2.1 W inn _ hk e (by omega) (by decide), b, off, ha, hx2.k⟩
  have h01 : (ts.getD n nd0).n = 0 ∨ (ts.getD n nd0).n = 1 := by rcases hif.2.2 with f | f <;> omega
  rw [hx0, if_pos (show 1 < (ts.getD n nd0).l.length by omega)] at hsi
  rw [hsi]
  obtain ⟨b, off, rfl, hx⟩ := hts n hi
  have he0 := e0.2.2
  have he1 := e1.2.2
  generalize kid (ts.getD n nd0) 0 = q0 at he0 hz hz2 WH ⊢
  generalize kid (ts.getD n nd0) 1 = q1 at he1 hlB hBk hzB BL ⊢
  generalize Ex ts q0 1 = C at hz WH ⊢
  generalize ts.getD n nd0 = x at hx hk2 he0 he1 hk16 h01 hl2 ⊢
  obtain ⟨la, lc, hl4, hints, hlc, hlm⟩ := hx.l
  unfold maxLen at hlm
  obtain ⟨lb, lo, rfl, hcl0⟩ := hints 0 (by omega)
  obtain ⟨lb2, lo2, ee, hcl1⟩ := hints 1 (by omega)
  simp only [Option.some.injEq, Addr.mk.injEq, and_true] at ee
  obtain ⟨rfl, rfl⟩ := ee
  have hcl2 : 2 < x.l.length → wb.cell? ⟨lb, lo + 2, none⟩ = some (.int .i64 (x.l.getD 2 0)) := fun e => by
    obtain ⟨lb2, lo2, ee, hcl2⟩ := hints 2 e
    simp only [Option.some.injEq, Addr.mk.injEq, and_true] at ee
    obtain ⟨rfl, rfl⟩ := ee
    exact hcl2
  rw [he0, Nat.add_zero] at hcl0
  rw [he1] at hcl1
  obtain ⟨k, at_, m, s, l⟩ := x
  simp only at hl4 hints hlc hk2 he0 he1 hk16 h01 hl2 hcl2 ⊢
  obtain rfl := hk16
  obtain ⟨M, hM⟩ : ∃ M, M = l.length := ⟨_, rfl⟩
  rw [← hM] at hl4 hlc hl2 hcl2 hk2 ⊢
  obtain ⟨N, hN⟩ : ∃ N, N = ts.length := ⟨_, rfl⟩
  rw [← hN] at WH BL hk2 hi hlen
  rw [← hN]
  -- the node's own copy
  obtain ⟨W1, hW1⟩ : ∃ W1, W1 = w0.alloc (.cells #[.slice (some ⟨b, off, none⟩) N cap] 24) := ⟨_, rfl⟩
  obtain ⟨W2, hW2⟩ : ∃ W2, W2 = W1.alloc (.cells #[.int .u8 16, .int .i64 at_, .int .i64 m, .string s, .slice (some ⟨lb, lo, none⟩) M lc] 44) := ⟨_, rfl⟩
  have k1 : KB F0 w0 W1 := by rw [hW1]; exact (KB.refl _ _).alloc _
  have k12 : KB F0 W1 W2 := by rw [hW2]; exact (KB.refl _ _).alloc _
  have hs1 : W1.heap.size = w0.heap.size + 1 := by rw [hW1]; simp
  have hbT : W2.heap[w0.heap.size]? = some (.cells #[.slice (some ⟨b, off, none⟩) N cap] 24 (0, 0)) := k12.heap (fun x => x) (by rw [hW1]; exact alloc_new _ _)
  have hbX : W2.heap[w0.heap.size + 1]? = some (.cells #[.int .u8 16, .int .i64 at_, .int .i64 m, .string s, .slice (some ⟨lb, lo, none⟩) M lc] 44 (0, 0)) := by rw [hW2, ← hs1]; exact alloc_new _ _
  have kb1 := hb.trans k1
  have c0 : W1.cell? ⟨b, off + n * 5, none⟩ = some (.int .u8 16) := kb1.cell (p := ⟨b, off + n * 5, none⟩) (fun x => x) hx.k
  have c1 : W1.cell? ⟨b, off + n * 5 + 1, none⟩ = some (.int .i64 at_) := kb1.cell (p := ⟨b, off + n * 5 + 1, none⟩) (fun x => x) hx.at_
  have c2 : W1.cell? ⟨b, off + n * 5 + 2, none⟩ = some (.int .i64 m) := kb1.cell (p := ⟨b, off + n * 5 + 2, none⟩) (fun x => x) hx.n
  have c3 : W1.cell? ⟨b, off + n * 5 + 3, none⟩ = some (.string s) := kb1.cell (p := ⟨b, off + n * 5 + 3, none⟩) (fun x => x) hx.s
  have c4 := kb1.cell (p := ⟨b, off + n * 5 + 4, none⟩) (fun x => x) hl4
  have k2 := k1.trans k12
  have hkk := hb.trans k2
  have hm0 := hkk.cell (p := ⟨lb, lo, none⟩) (fun x => x) hcl0
  have hm1 := hkk.cell (p := ⟨lb, lo + 1, none⟩) (fun x => x) hcl1
  -- the head
  obtain ⟨A1, hA1⟩ : ∃ Z_ : ByteArray, head ++ ⟨#[105, 102, 32]⟩ = Z_ := ⟨_, rfl⟩
  obtain ⟨A2, hA2⟩ : ∃ Z_ : ByteArray, A1 ++ C = Z_ := ⟨_, rfl⟩
  obtain ⟨A3, hA3⟩ : ∃ Z_ : ByteArray, A2 ++ ⟨#[32]⟩ = Z_ := ⟨_, rfl⟩
  have sA1 : A1.size = head.size + 3 := by rw [← hA1, ByteArray.size_append]; rfl
  have sA2 : A2.size = A1.size + C.size := by rw [← hA2, ByteArray.size_append]
  have sA3 : A3.size = A2.size + 1 := by rw [← hA3, ByteArray.size_append]; rfl
  have hP : blB inn ++ head ++ (⟨#[105, 102, 32]⟩ ++ C ++ ⟨#[32]⟩) = blB inn ++ A3 := by rw [← hA3, ← hA2, ← hA1]; simp only [ByteArray.append_assoc]
  rw [hP]
  have z1 : ¬ (9223372036854775807 < head.size + 3) := by omega
  have z2 : ¬ (9223372036854775807 < A1.size + C.size) := by omega
  have z3 : ¬ (9223372036854775807 < A2.size + 1) := by omega
  obtain ⟨B0, hB0⟩ : ∃ B0, St5 ts q1 inn (blB inn ++ A3) = B0 ++ [blB inn ++ ⟨#[125]⟩] := ⟨_, hBk inn _⟩
  have hlB2 := hlB (blB inn ++ A3)
  rw [hB0, List.length_append, List.length_singleton] at hlB2
  have hbl := fun (W : World) (hk : KB F0 W2 W) => BL.out W A3 (hkk.trans hk) (by omega)
  rw [hB0] at hbl ⊢
  have hbz := blB_size inn
  obtain ⟨R, hR⟩ : ∃ R, R = if m = 0 then B0 ++ [blB inn ++ ⟨#[125]⟩] else (B0 ++ [blB inn ++ ⟨#[125]⟩]).dropLast ++ (if 2 < M then St5 ts (kid ⟨16, at_, m, s, l⟩ 2) inn (blB inn ++ ⟨#[125, 32, 101, 108, 115, 101, 32]⟩) else []) := ⟨_, rfl⟩
  rw [← hR]
  have HR := Lib.hid hR
  have HBL := Lib.hid hbl
  have HWH := Lib.hid (fun (W : World) (hk : KB F0 W2 W) => WH.out W (hkk.trans hk))
  have HK2 := Lib.hid hk2
  have HC2 := Lib.hid hcl2
  have HKK := Lib.hid hkk
  have H0 := Lib.hid (And.intro k2 (And.intro hbT hbX))
  have hii : inn ≤ 16384 := by omega
  have hz16 : wt1 ts q1 ≤ 16384 := by have := hzB.2; omega
  have HZ := Lib.hid (And.intro hlB2 hz16)
  have BK := Lib.hid (fun (W : World) => blanks_any inn (by omega) W)
  have H01 := Lib.hid h01
  have hiN : (n : Int) < (N : Int) := by omega
  have hM1 : (1 : Int) < (M : Int) := by omega
  have hM0 : 0 < M := by omega
  have e4 : W2.cell? ⟨w0.heap.size, 0, none⟩ = some (.slice (some ⟨b, off, none⟩) N cap) := blk_cell hbT 0
  have d4 : W2.cell? ⟨w0.heap.size + 1, 4, none⟩ = some (.slice (some ⟨lb, lo, none⟩) M lc) := blk_cell hbX 4
  have HW := Lib.hid (And.intro hW2 hW1)
  rw [hW1] at c0 c1 c2 c3 c4
  unfold TxtCall at HWH
  clear hz16 hif hsi e0 e1 hx0 hz hz2 hzB hlB hBk WH BL hk2 hcl0 hcl1 hcl2 hints hl4 hx hM hN hb hts hT ihB ihC h hok hin hhd k1 k12 hs1 hbT hbX kb1 k2 hkk sA1 sA2 sA3 hP hlB2 hbl hR he0 he1 hi hlen hlc h01 hl2 hB0
  go_enter Tryz.func80, Tryz.ntmps80
  go_wp2_with fail
  rw [← HW.out.2, ← HW.out.1]
  clear c0 c1 c2 c3 c4 hW1 hW2
  refine wp_region_rv 16 GK (kindW [(13, (fun v => v = .string C), (fun _ _ => True))]) (by kernel_rfl) (by kernel_rfl) (kb_trans _) (kb_refl _) (kb_start _ _) (kindW_mono _ (by intro p hp; simp only [List.mem_cons, List.not_mem_nil, or_false] at hp; (subst hp; exact lasts_true))) ?_
  simp only [List.take_succ_cons, List.take_zero, List.drop_succ_cons, List.drop_zero]
  iterate 8 (refine rv_det (by kernel_rfl) rfl (by intro w hG hH; have hc0 := KB.cell hG (fun x => x) (e4); have hc1 := KB.cell hG (fun x => x) (d4); have hc2 := KB.cell hG (fun x => x) (hm1); go_simp; first | done | with_reducible rfl) ?_; simp only [Act.put, List.setIfInBounds_toArray, List.set_cons_zero, List.set_cons_succ])
  iterate 5 (refine rv_det (by kernel_rfl) rfl (by intro w hG hH; have hc0 := KB.cell hG (fun x => x) (e4); have hc1 := KB.cell hG (fun x => x) (d4); have hc2 := KB.cell hG (fun x => x) (hm0); go_simp; first | done | with_reducible rfl) ?_; simp only [Act.put, List.setIfInBounds_toArray, List.set_cons_zero, List.set_cons_succ])
  refine rv_rel (by kernel_rfl) rfl ⟨_, rfl⟩ (by
    intro w hG hH
    refine opVal_call (by go_simp; first | done | exact ⟨⟨rfl, rfl⟩, rfl⟩) ?_
    refine (HWH.out _ hG).mono ?_
    rintro e w' ⟨rfl, hq⟩
    exact ⟨_, rfl, rfl, by first | (obtain ⟨nq, rfl⟩ := hq; exact (KB.refl _ _).drewN _) | (subst hq; exact KB.refl _ _) | exact hq, trivial⟩) ?_
  rintro v rfl
  simp only [Act.put, List.setIfInBounds_toArray, List.set_cons_zero, List.set_cons_succ]
  iterate 2 (refine rv_det (by kernel_rfl) rfl (by intro w hG hH; go_simp; first | done | with_reducible rfl) ?_; simp only [Act.put, List.setIfInBounds_toArray, List.set_cons_zero, List.set_cons_succ])
  refine rv_nil (fun w hG hH => ?_)
  have H1 := Lib.hid (And.intro hG (And.intro (H0.out.1.trans hG) (And.intro (hG.heap (fun x => x) H0.out.2.1) (hG.heap (fun x => x) H0.out.2.2))))
  have d2 : w.cell? ⟨w0.heap.size + 1, 2, none⟩ = some (.int .i64 m) := blk_cell H1.out.2.2.2 2
  clear hG hH e4 d4 hm0 hm1 H0 HWH
  go_wp2_with fail
  refine (HBL.out w H1.out.1).mono ?_
  rintro e w2 ⟨v, rfl, hown, hkb⟩
  have hown := own_low hown H1.out.2.1.size
  obtain ⟨K, hK⟩ : ∃ K, K = B0.length := ⟨_, rfl⟩
  rw [List.length_append, List.length_singleton, ← hK] at hown
  obtain ⟨a1, cap1, rfl, hcp, -, h3, -⟩ := own_shape hown
  obtain ⟨g1, rfl, -, hcz⟩ := h3 K (by omega)
  rw [List.map_append, List.getElem?_append_right (by rw [List.length_map, hK]; exact Nat.le_refl _), List.length_map, ← hK, Nat.sub_self] at hcz
  change _ = some (Value.string _) at hcz
  have d2 := hkb.cell (p := ⟨w0.heap.size + 1, 2, none⟩) (fun x => x) d2
  have H2 := Lib.hid (And.intro hown (And.intro (H1.out.2.1.trans hkb) (And.intro (hkb.heap (fun x => x) H1.out.2.2.1) (And.intro (hkb.heap (fun x => x) H1.out.2.2.2) (H1.out.1.trans hkb)))))
  have hKb : K ≤ 40000 := by have := HZ.out; omega
  have HKL := Lib.hid hK
  clear hown hkb h3 HBL H1 HZ hK
  rcases H01.out with rfl | rfl
  · have HE : R = B0 ++ [blB inn ++ ⟨#[125]⟩] := HR.out
    clear HR HK2 HC2 HKK hcz BK
    have HE := Lib.hid HE
    go_wp2_with fail
    go_ret
    exact ⟨_, rfl, by rw [HE.out, List.length_append, List.length_singleton, ← HKL.out]; exact H2.out.1, H2.out.2.1⟩
  · obtain ⟨q2, h2M, hl2, hq2N, hkd, hk2, hp2, hlq, hcB, hcC, b3, off3, ee, hkc⟩ := HK2.out rfl
    simp only [Option.some.injEq, Addr.mk.injEq, and_true] at ee
    obtain ⟨rfl, rfl⟩ := ee
    have HE : R = B0 ++ St5 ts q2 inn (blB inn ++ ⟨#[125, 32, 101, 108, 115, 101, 32]⟩) := by
      rw [HR.out, if_neg (by decide), List.dropLast_concat, if_pos h2M, hkd]
    clear HR HK2
    have hp2 := hp2 (blB inn ++ ⟨#[125, 32, 101, 108, 115, 101, 32]⟩)
    have hlq := hlq (blB inn ++ ⟨#[125, 32, 101, 108, 115, 101, 32]⟩)
    generalize St5 ts q2 inn (blB inn ++ ⟨#[125, 32, 101, 108, 115, 101, 32]⟩) = L at hcB hcC hp2 hlq HE
    obtain ⟨ML, hML⟩ : ∃ ML, ML = L.length := ⟨_, rfl⟩
    have HB := Lib.hid (fun (W : World) (hk : KB F0 W2 W) => hcB W (HKK.out.trans hk))
    have HC := Lib.hid (fun (W : World) (hk : KB F0 W2 W) => hcC W (HKK.out.trans hk))
    unfold LnEnd at HB HC
    rw [← hML] at HB HC hp2 hlq
    have HE := Lib.hid (And.intro HE hML)
    have hcc := HC2.out h2M
    rw [hl2] at hcc
    have hcc := (HKK.out.trans H2.out.2.2.2.2).cell (p := ⟨lb, lo + 2, none⟩) (fun x => x) hcc
    have hkc := (HKK.out.trans H2.out.2.2.2.2).cell (p := ⟨b, off + q2 * 5, none⟩) (fun x => x) hkc
    have e4 : w2.cell? ⟨w0.heap.size, 0, none⟩ = some (.slice (some ⟨b, off, none⟩) N cap) := blk_cell H2.out.2.2.1 0
    have d4 : w2.cell? ⟨w0.heap.size + 1, 4, none⟩ = some (.slice (some ⟨lb, lo, none⟩) M lc) := blk_cell H2.out.2.2.2.1 4
    have hbz := blB_size inn
    have hM2 : (2 : Int) < (M : Int) := by omega
    have hq2i : (q2 : Int) < (N : Int) := by omega
    have w1 : IntKind.i64.wrap ((K + 1 : Int) - 1) = (K : Int) := by rw [w64 (by omega) (by omega)]; omega
    clear hcB hcC hkd hl2 hML HC2 HKK h2M hq2N
    go_wp2_with fail
    obtain ⟨BL, hBL⟩ : ∃ BL, BL = blB inn := ⟨_, rfl⟩
    rw [← hBL] at BK hbz
    refine (BK.out _).mono ?_
    rintro e w3 ⟨rfl, rfl⟩
    go_wp2_with fail
    have hcut : (blB inn ++ ⟨#[125]⟩).extract (4 * inn) (4 * inn + 1) = ⟨#[125]⟩ := by
      have e : (blB inn ++ ⟨#[125]⟩).extract (4 * inn) (4 * inn + 1) = (⟨#[125]⟩ : ByteArray) := by
        rw [ByteArray.extract_append_eq_right] <;> first | exact (blB_size inn).symm | (rw [blB_size]; rfl)
      exact e
    rw [hcut, show (⟨#[125]⟩ : ByteArray) ++ ⟨#[32, 101, 108, 115, 101, 32]⟩ = ⟨#[125, 32, 101, 108, 115, 101, 32]⟩ from rfl]
    clear hcut hcz
    rcases hk2 with hk2 | hk2
    · have hkc : w2.cell? ⟨b, off + q2 * 5, none⟩ = some (.int .u8 13) := by rw [hk2] at hkc; exact hkc
      have HX := Lib.hid (HB.out)
      have hk2 := Lib.hid hk2
      clear HB HC
      refine wp_region_rv 10 GK (kindW []) (by kernel_rfl) (by kernel_rfl) (kb_trans _) (kb_refl _) (kb_start _ _) (kindW_mono _ (by intro p hp; cases hp)) ?_
      simp only [List.take_succ_cons, List.take_zero, List.drop_succ_cons, List.drop_zero]
      iterate 10 (refine rv_det (by kernel_rfl) rfl (by intro w hG hH; have hc0 := KB.cell hG (fun x => x) (e4); have hc1 := KB.cell hG (fun x => x) (d4); have hc2 := KB.cell hG (fun x => x) (hcc); have hc3 := KB.cell hG (fun x => x) (hkc); go_simp; first | done | with_reducible rfl) ?_; simp only [Act.put, List.setIfInBounds_toArray, List.set_cons_zero, List.set_cons_succ])
      refine rv_nil (fun w hG hH => ?_)
      have H3 := Lib.hid (And.intro (own_kb (own_pop (by have := H2.out.1; rw [List.map_append] at this; exact this)) hG (fun _ _ x => x)) (And.intro (H2.out.2.1.trans hG) (H2.out.2.2.2.2.trans hG)))
      have e4 := hG.cell (p := ⟨w0.heap.size, 0, none⟩) (fun x => x) e4
      have d4 := hG.cell (p := ⟨w0.heap.size + 1, 4, none⟩) (fun x => x) d4
      have hcc := hG.cell (p := ⟨lb, lo + 2, none⟩) (fun x => x) hcc
      clear hG hH hkc H2
      go_wp2_with fail
      obtain ⟨wz, rfl⟩ : ∃ wz, wz = w := ⟨_, rfl⟩
      refine wp_region_rv 9 GK (kindW [(8, (SlV ML), (SlW w0.heap.size ML (L.map Value.string)))]) (by kernel_rfl) (by kernel_rfl) (kb_trans _) (kb_refl _) (kb_start _ _) (kindW_mono _ (by intro p hp; simp only [List.mem_cons, List.not_mem_nil, or_false] at hp; (subst hp; exact lasts_sl _ _ _))) ?_
      simp only [List.take_succ_cons, List.take_zero, List.drop_succ_cons, List.drop_zero]
      iterate 8 (refine rv_det (by kernel_rfl) rfl (by intro w hG hH; have hc0 := KB.cell hG (fun x => x) (e4); have hc1 := KB.cell hG (fun x => x) (d4); have hc2 := KB.cell hG (fun x => x) (hcc); go_simp; first | done | with_reducible rfl) ?_; simp only [Act.put, List.setIfInBounds_toArray, List.set_cons_zero, List.set_cons_succ])
      refine rv_rel (by kernel_rfl) rfl ⟨.slice (some ⟨0, 0, none⟩) ML 0, 0, 0, rfl⟩ ?hcallR13 ?hrestR13
      case hcallR13 =>
        intro w hG hH
        clear hH
        refine opVal_call (by go_simp; first | done | exact ⟨⟨rfl, rfl⟩, rfl⟩) ?_
        refine (HX.out w (H3.out.2.2.trans hG) hk2.out).mono ?_
        rintro e w' ⟨v, rfl, hown, hkb⟩
        have h1 : SlV ML v := own_sl hown hp2
        have h2 : SlW w0.heap.size ML (L.map Value.string) v w' := own_low hown (Nat.le_trans H3.out.2.1.size hG.size)
        clear hown
        refine ⟨v, rfl, h1, hkb, ?_⟩
        exact h2
      case hrestR13 =>
       rintro v ⟨gL, cL, rfl⟩
       simp only [Act.put, List.setIfInBounds_toArray, List.set_cons_zero, List.set_cons_succ]
       refine rv_nil (fun w hG hH => ?_)
       have hL := hH (8, _) List.mem_cons_self
       clear hH
       have HL : Hid (w.ownsRow w0.heap.size 9 1 (.slice (some ⟨gL, 0, none⟩) ML cL) ML (L.map Value.string)) := Lib.hid hL
       have H4 := Lib.hid (And.intro (own_kb H3.out.1 hG (fun _ _ x => x)) (H3.out.2.1.trans hG))
       clear hG e4 d4 hcc hL HX H3
       go_wp2_with (at_builtin; refine Stopped.out ?_)
       refine ⟨?_⟩
       refine appL 33 9 w0.heap.size (L.map Value.string) Tryz.infoStr5 Tryz.underlying33 (by decide) H4.out.1 rfl rfl rfl rfl HL.out strs_one (by unfold maxLen; omega) (by omega) H4.out.2.size ?_
       intro v2 w2 hown2 hgr2
       have k2 : KB F0 w0 w2 := H4.out.2.grown hgr2 (own_ge H4.out.1 (Nat.le_refl _))
       have hlen2 : K + ML = R.length := by rw [HE.out.1, HKL.out, HE.out.2, List.length_append]
       rw [← List.map_append, ← HE.out.1, hlen2] at hown2
       have H2 := Lib.hid (And.intro hown2 k2)
       clear hown2 k2 hlen2 hgr2
       go_wp2_with fail
       go_ret
       exact ⟨_, rfl, H2.out.1, H2.out.2⟩
    · have hkc : w2.cell? ⟨b, off + q2 * 5, none⟩ = some (.int .u8 16) := by rw [hk2] at hkc; exact hkc
      have HX := Lib.hid (HC.out)
      have hk2 := Lib.hid hk2
      clear HB HC
      refine wp_region_rv 10 GK (kindW []) (by kernel_rfl) (by kernel_rfl) (kb_trans _) (kb_refl _) (kb_start _ _) (kindW_mono _ (by intro p hp; cases hp)) ?_
      simp only [List.take_succ_cons, List.take_zero, List.drop_succ_cons, List.drop_zero]
      iterate 10 (refine rv_det (by kernel_rfl) rfl (by intro w hG hH; have hc0 := KB.cell hG (fun x => x) (e4); have hc1 := KB.cell hG (fun x => x) (d4); have hc2 := KB.cell hG (fun x => x) (hcc); have hc3 := KB.cell hG (fun x => x) (hkc); go_simp; first | done | with_reducible rfl) ?_; simp only [Act.put, List.setIfInBounds_toArray, List.set_cons_zero, List.set_cons_succ])
      refine rv_nil (fun w hG hH => ?_)
      have H3 := Lib.hid (And.intro (own_kb (own_pop (by have := H2.out.1; rw [List.map_append] at this; exact this)) hG (fun _ _ x => x)) (And.intro (H2.out.2.1.trans hG) (H2.out.2.2.2.2.trans hG)))
      have e4 := hG.cell (p := ⟨w0.heap.size, 0, none⟩) (fun x => x) e4
      have d4 := hG.cell (p := ⟨w0.heap.size + 1, 4, none⟩) (fun x => x) d4
      have hcc := hG.cell (p := ⟨lb, lo + 2, none⟩) (fun x => x) hcc
      clear hG hH hkc H2
      go_wp2_with fail
      obtain ⟨wz, rfl⟩ : ∃ wz, wz = w := ⟨_, rfl⟩
      refine wp_region_rv 9 GK (kindW [(8, (SlV ML), (SlW w0.heap.size ML (L.map Value.string)))]) (by kernel_rfl) (by kernel_rfl) (kb_trans _) (kb_refl _) (kb_start _ _) (kindW_mono _ (by intro p hp; simp only [List.mem_cons, List.not_mem_nil, or_false] at hp; (subst hp; exact lasts_sl _ _ _))) ?_
      simp only [List.take_succ_cons, List.take_zero, List.drop_succ_cons, List.drop_zero]
      iterate 8 (refine rv_det (by kernel_rfl) rfl (by intro w hG hH; have hc0 := KB.cell hG (fun x => x) (e4); have hc1 := KB.cell hG (fun x => x) (d4); have hc2 := KB.cell hG (fun x => x) (hcc); go_simp; first | done | with_reducible rfl) ?_; simp only [Act.put, List.setIfInBounds_toArray, List.set_cons_zero, List.set_cons_succ])
      refine rv_rel (by kernel_rfl) rfl ⟨.slice (some ⟨0, 0, none⟩) ML 0, 0, 0, rfl⟩ ?hcallR16 ?hrestR16
      case hcallR16 =>
        intro w hG hH
        clear hH
        refine opVal_call (by go_simp; first | done | exact ⟨⟨rfl, rfl⟩, rfl⟩) ?_
        refine (HX.out w (H3.out.2.2.trans hG) hk2.out).mono ?_
        rintro e w' ⟨v, rfl, hown, hkb⟩
        have h1 : SlV ML v := own_sl hown hp2
        have h2 : SlW w0.heap.size ML (L.map Value.string) v w' := own_low hown (Nat.le_trans H3.out.2.1.size hG.size)
        clear hown
        refine ⟨v, rfl, h1, hkb, ?_⟩
        exact h2
      case hrestR16 =>
       rintro v ⟨gL, cL, rfl⟩
       simp only [Act.put, List.setIfInBounds_toArray, List.set_cons_zero, List.set_cons_succ]
       refine rv_nil (fun w hG hH => ?_)
       have hL := hH (8, _) List.mem_cons_self
       clear hH
       have HL : Hid (w.ownsRow w0.heap.size 9 1 (.slice (some ⟨gL, 0, none⟩) ML cL) ML (L.map Value.string)) := Lib.hid hL
       have H4 := Lib.hid (And.intro (own_kb H3.out.1 hG (fun _ _ x => x)) (H3.out.2.1.trans hG))
       clear hG e4 d4 hcc hL HX H3
       go_wp2_with (at_builtin; refine Stopped.out ?_)
       refine ⟨?_⟩
       refine appL 33 9 w0.heap.size (L.map Value.string) Tryz.infoStr5 Tryz.underlying33 (by decide) H4.out.1 rfl rfl rfl rfl HL.out strs_one (by unfold maxLen; omega) (by omega) H4.out.2.size ?_
       intro v2 w2 hown2 hgr2
       have k2 : KB F0 w0 w2 := H4.out.2.grown hgr2 (own_ge H4.out.1 (Nat.le_refl _))
       have hlen2 : K + ML = R.length := by rw [HE.out.1, HKL.out, HE.out.2, List.length_append]
       rw [← List.map_append, ← HE.out.1, hlen2] at hown2
       have H2 := Lib.hid (And.intro hown2 k2)
       clear hown2 k2 hlen2 hgr2
       go_wp2_with fail
       go_ret
       exact ⟨_, rfl, H2.out.1, H2.out.2⟩
end Go.Proofs.YtoophdcagpfmpaaGreatDoor

/- print: an if's lines. -/
import Derived.Test.YtoophdcagpfmpaaGreatDoorPrI
namespace Go.Proofs.YtoophdcagpfmpaaGreatDoor
open Go.RowKit

theorem begins_more {X : Nat} {sv v : Value} {o : List ByteArray} {P : ByteArray} {inn : Nat} {w : World} (hp : Pg w X sv v (o ++ [P]) inn) (hP : P.size ≤ 1000000000) (ho : o.length ≤ 1000000) : Begins 141 X sv v o P inn w :=
  fun s hs _ hk => more_any X sv v o P inn s _ (hp.kb hk) (by omega) (by omega)
theorem begins_line {X : Nat} {sv v : Value} {o : List ByteArray} {inn : Nat} {w : World} (hp : Pg w X sv v o inn) (hi : inn ≤ 20000) (ho : o.length ≤ 1000000) : Begins 95 X sv v o (blB inn) inn w :=
  fun s hs _ hk => line_any X sv v o inn s _ (hp.kb hk) hi (by omega) (by omega)
theorem Begins.kb {g X : Nat} {sv v : Value} {o : List ByteArray} {Pre : ByteArray} {inn : Nat} {w w' : World} (h : Begins g X sv v o Pre inn w) (hk : KB F0 w w') : Begins g X sv v o Pre inn w' :=
  fun s hs W hW => h s hs W (hk.trans hW)
theorem enters_more : Enters 141 := enters Tryz.func141 (by kernel_rfl) (by kernel_rfl)
theorem enters_line : Enters 95 := enters Tryz.func95 (by kernel_rfl) (by kernel_rfl)
theorem St_if {ts : List Nd} (h : TOk ts) {n : Nat} (hn : n < ts.length) (hk : (ts.getD n nd0).k = 16) (inn : Nat) (P : ByteArray) : St5 ts n inn P =
    if (ts.getD n nd0).n = 0 then (if 1 < (ts.getD n nd0).l.length then St5 ts (kid (ts.getD n nd0) 1) inn (P ++ (⟨#[105, 102, 32]⟩ ++ exK ts (ts.getD n nd0) 0 ++ ⟨#[32]⟩)) else [])
    else (if 1 < (ts.getD n nd0).l.length then St5 ts (kid (ts.getD n nd0) 1) inn (P ++ (⟨#[105, 102, 32]⟩ ++ exK ts (ts.getD n nd0) 0 ++ ⟨#[32]⟩)) else []).dropLast ++ (if 2 < (ts.getD n nd0).l.length then St5 ts (kid (ts.getD n nd0) 2) inn (blB inn ++ ⟨#[125, 32, 101, 108, 115, 101, 32]⟩) else []) := by
  rw [St_eq h.down hn, stN, hk]; rfl
theorem else_txt (B : ByteArray) : B ++ ⟨#[125]⟩ ++ ⟨#[32, 101, 108, 115, 101, 32]⟩ = B ++ ⟨#[125, 32, 101, 108, 115, 101, 32]⟩ := by
  rw [ByteArray.append_assoc]; rfl
set_option maxRecDepth 100000 in
set_option maxHeartbeats 8000000 in
theorem choice_step (ts : List Nd) (h : TOk ts) (hok : ∀ x ∈ ts, NdOk x) (a : Option Addr) (cap : Nat) (wb : World) (X n : Nat) (hX : wb.heap.size ≤ X) (hts : NodesAt wb a ts) (hT : PT wb) (hi : n < ts.length)
    (ihB : ∀ q, n < q → q < ts.length → BlockAt ts a cap wb X q) (ihC : ∀ q, n < q → q < ts.length → ChoiceAt ts a cap wb X q) : ChoiceAt ts a cap wb X n := by
  intro w v o out inn Pre g hk16 hp hb hin hol hbg hen
  obtain ⟨w0, rfl⟩ : ∃ w0, w0 = w := ⟨_, rfl⟩
  have hlen := h.len
  have hif := h.if_ hi hk16
  have hsi := St_if h hi hk16 inn Pre
  have hl2 : 2 ≤ (ts.getD n nd0).l.length := by rcases hif.2.2 with e | e <;> omega
  have e0 := h.kid hi (i := 0) (by omega)
  have e1 := h.kid hi (i := 1) (by omega)
  have hx0 : exK ts (ts.getD n nd0) 0 = Ex ts (kid (ts.getD n nd0) 0) 1 := if_pos (by omega)
  have hw1 : wK ts (ts.getD n nd0) 1 = wt1 ts (kid (ts.getD n nd0) 1) := wK_at (by omega)
  have hws := wK_sum h.good hi 3
  have hwp := wt1_pos h.good e1.2.1
  simp only [sumK] at hws
  have hz := Ex_size h hok 1 e0.2.1
  have hz2 := wt1_pos h.good e0.2.1
  have hlB := St_len h e1.2.1
  have hBk := St_block h e1.2.1 hif.2.1
  have WH := Lib.hid (fun (W : World) (hk : KB F0 wb W) => whole_any ts h hok a cap _ W e0.2.1 (hts.kbF hk) (hT.kb hk) hif.1)
  have BL := Lib.hid (ihB _ e1.1 e1.2.1)
  have hk2 : (ts.getD n nd0).n = 1 → ∃ q2 : Nat, 2 < (ts.getD n nd0).l.length ∧ (ts.getD n nd0).l.getD 2 0 = (q2 : Int) ∧ n < q2 ∧ q2 < ts.length ∧ kid (ts.getD n nd0) 2 = q2 ∧ ((ts.getD q2 nd0).k = 13 ∨ (ts.getD q2 nd0).k = 16) ∧ wK ts (ts.getD n nd0) 2 = wt1 ts q2 ∧ BlockAt ts a cap wb X q2 ∧ ChoiceAt ts a cap wb X q2 ∧ ∃ b off, a = some ⟨b, off, none⟩ ∧ wb.cell? ⟨b, off + q2 * 5, none⟩ = some (.int .u8 ((ts.getD q2 nd0).k : Nat)) := fun e => by
    rcases hif.2.2 with f | f
    · omega
    have e2 := h.kid hi (i := 2) (by omega)
    obtain ⟨b, off, ha, hx2⟩ := hts _ e2.2.1
    exact ⟨_, by omega, e2.2.2, e2.1, e2.2.1, rfl, f.2.2, wK_at (by omega), ihB _ e2.1 e2.2.1, ihC _ e2.1 e2.2.1, b, off, ha, hx2.k⟩
  have h01 : (ts.getD n nd0).n = 0 ∨ (ts.getD n nd0).n = 1 := by rcases hif.2.2 with f | f <;> omega
  rw [hx0, if_pos (show 1 < (ts.getD n nd0).l.length by omega)] at hsi
  rw [hsi]
  obtain ⟨b, off, rfl, hx⟩ := hts n hi
  have he0 := e0.2.2
  have he1 := e1.2.2
  have hq1 := e1.1
  have hq1N := e1.2.1
  have hq1k := hif.2.1
  generalize kid (ts.getD n nd0) 0 = q0 at he0 hz hz2 WH ⊢
  generalize kid (ts.getD n nd0) 1 = q1 at he1 hw1 hlB hBk BL hq1 hq1N hq1k hwp ⊢
  generalize Ex ts q0 1 = C at hz WH ⊢
  have hWK : wK ts (ts.getD n nd0) 0 + wK ts (ts.getD n nd0) 1 + wK ts (ts.getD n nd0) 2 + 1 ≤ wt1 ts n := by omega
  generalize wK ts (ts.getD n nd0) = WK at hWK hw1 hk2
  generalize ts.getD n nd0 = x at hx hk2 he0 he1 hk16 h01 hl2 ⊢
  obtain ⟨la, lc, hl4, hints, hlc, hlm⟩ := hx.l
  unfold maxLen at hlm
  obtain ⟨lb, lo, rfl, hcl0⟩ := hints 0 (by omega)
  obtain ⟨lb2, lo2, ee, hcl1⟩ := hints 1 (by omega)
  simp only [Option.some.injEq, Addr.mk.injEq, and_true] at ee
  obtain ⟨rfl, rfl⟩ := ee
  have hcl2 : 2 < x.l.length → wb.cell? ⟨lb, lo + 2, none⟩ = some (.int .i64 (x.l.getD 2 0)) := fun e => by
    obtain ⟨lb2, lo2, ee, hcl2⟩ := hints 2 e
    simp only [Option.some.injEq, Addr.mk.injEq, and_true] at ee
    obtain ⟨rfl, rfl⟩ := ee
    exact hcl2
  rw [he0, Nat.add_zero] at hcl0
  rw [he1] at hcl1
  obtain ⟨k, at_, m, s, l⟩ := x
  simp only at hl4 hints hlc hk2 he0 he1 hk16 h01 hl2 hcl2 ⊢
  obtain rfl := hk16
  obtain ⟨M, hM⟩ : ∃ M, M = l.length := ⟨_, rfl⟩
  rw [← hM] at hl4 hlc hl2 hcl2 hk2 ⊢
  obtain ⟨N, hN⟩ : ∃ N, N = ts.length := ⟨_, rfl⟩
  obtain ⟨sv, hsv⟩ : ∃ sv, sv = Value.slice (some ⟨b, off, none⟩) N cap := ⟨_, rfl⟩
  rw [← hN, ← hsv] at hp hbg WH
  rw [← hN, ← hsv]
  rw [← hN] at hi hq1N
  unfold BlockAt at BL
  rw [← hN, ← hsv] at BL
  -- the node's own copy
  obtain ⟨W1, hW1⟩ : ∃ W1, W1 = w0.alloc (.cells #[.int .u8 16, .int .i64 at_, .int .i64 m, .string s, .slice (some ⟨lb, lo, none⟩) M lc] 44) := ⟨_, rfl⟩
  have k1 : KB F0 w0 W1 := by rw [hW1]; exact (KB.refl _ _).alloc _
  have hbN : W1.heap[w0.heap.size]? = some (.cells #[.int .u8 16, .int .i64 at_, .int .i64 m, .string s, .slice (some ⟨lb, lo, none⟩) M lc] 44 (0, 0)) := by rw [hW1]; exact alloc_new _ _
  have kb1 := hb.trans k1
  have c0 : w0.cell? ⟨b, off + n * 5, none⟩ = some (.int .u8 16) := hb.cell (p := ⟨b, off + n * 5, none⟩) (fun x => x) hx.k
  have c1 : w0.cell? ⟨b, off + n * 5 + 1, none⟩ = some (.int .i64 at_) := hb.cell (p := ⟨b, off + n * 5 + 1, none⟩) (fun x => x) hx.at_
  have c2 : w0.cell? ⟨b, off + n * 5 + 2, none⟩ = some (.int .i64 m) := hb.cell (p := ⟨b, off + n * 5 + 2, none⟩) (fun x => x) hx.n
  have c3 : w0.cell? ⟨b, off + n * 5 + 3, none⟩ = some (.string s) := hb.cell (p := ⟨b, off + n * 5 + 3, none⟩) (fun x => x) hx.s
  have c4 := hb.cell (p := ⟨b, off + n * 5 + 4, none⟩) (fun x => x) hl4
  have p0 : w0.cell? ⟨X, 0, none⟩ = some sv := blk_cell hp.blk 0
  have hXlt := heap_lt hp.blk
  have hne := hp.ne
  obtain ⟨A, hA⟩ : ∃ A : ByteArray, ⟨#[105, 102, 32]⟩ ++ C = A := ⟨_, rfl⟩
  obtain ⟨H, hH⟩ : ∃ H : ByteArray, A ++ ⟨#[32]⟩ = H := ⟨_, rfl⟩
  have sA : A.size = 3 + C.size := by rw [← hA, ByteArray.size_append]; rfl
  have sH : H.size = A.size + 1 := by rw [← hH, ByteArray.size_append]; rfl
  rw [hA, hH]
  have hBk2 : ∃ B0, St5 ts q1 inn (Pre ++ H) = B0 ++ [blB inn ++ ⟨#[125]⟩] := ⟨_, hBk inn _⟩
  have hlB2 := hlB inn (Pre ++ H)
  have z1 : ¬ (9223372036854775807 < 3 + C.size) := by omega
  have z2 : ¬ (9223372036854775807 < A.size + 1) := by omega
  have hMi : (n : Int) < (N : Int) := by omega
  have hM1 : (1 : Int) < (M : Int) := by omega
  have hM0 : 0 < M := by omega
  have HBL := Lib.hid (fun (W : World) (hp : Pg W X sv v out inn) (hk : KB F0 w0 W) => BL.out W v o out inn Pre H g hq1k hp (hb.trans hk) (by omega) (by omega) (by omega) (hbg.kb hk) hen)
  have HWH := Lib.hid (fun (W : World) (hk : KB F0 w0 W) => WH.out W (hb.trans hk))
  have HP := Lib.hid (And.intro hp (And.intro hb (And.intro k1 hbN)))
  have HW := Lib.hid hW1
  have HQ := Lib.hid (And.intro hin (And.intro hol (And.intro hX (And.intro hXlt (And.intro hne (And.intro hlB2 (And.intro hWK hw1)))))))
  have HK2 := Lib.hid hk2
  have HC2 := Lib.hid hcl2
  have HB2 := Lib.hid hBk2
  have hm0 := k1.cell (p := ⟨lb, lo, none⟩) (fun x => x) (hb.cell (p := ⟨lb, lo, none⟩) (fun x => x) hcl0)
  have hm1 := k1.cell (p := ⟨lb, lo + 1, none⟩) (fun x => x) (hb.cell (p := ⟨lb, lo + 1, none⟩) (fun x => x) hcl1)
  have HNN := Lib.hid (And.intro hN hsv)
  have H01 := Lib.hid h01
  unfold TxtCall at HWH
  have hiN16 : N ≤ 16384 := by rw [hN]; exact hlen
  have hsv2 := hsv
  obtain ⟨R, hR⟩ : ∃ R, R = if m = 0 then St5 ts q1 inn (Pre ++ H) else (St5 ts q1 inn (Pre ++ H)).dropLast ++ (if 2 < M then St5 ts (kid ⟨16, at_, m, s, l⟩ 2) inn (blB inn ++ ⟨#[125, 32, 101, 108, 115, 101, 32]⟩) else []) := ⟨_, rfl⟩
  rw [← hR]
  have HR := Lib.hid hR
  clear hR
  clear hbg BL WH hx hp hb hin hol hX hts hT ihB ihC h hok hlen hif hsi e0 e1 hx0 hw1 hws hz hz2 hlB hBk hk2 hBk2 hlB2 hcl0 hcl1 hcl2 hints hl4 hM sA sH hi hq1N hWK he0 he1 hne hN hsv hXlt kb1 k1 hbN hq1 hlc hwp h01
  subst hsv2
  go_enter Tryz.func100, Tryz.ntmps100
  go_wp2_with fail
  rw [← HW.out]
  have p0 : W1.cell? ⟨X, 0, none⟩ = some (.slice (some ⟨b, off, none⟩) N cap) := HP.out.2.2.1.cell (p := ⟨X, 0, none⟩) (fun x => x) p0
  have d4 : W1.cell? ⟨w0.heap.size, 4, none⟩ = some (.slice (some ⟨lb, lo, none⟩) M lc) := blk_cell HP.out.2.2.2 4
  clear c0 c1 c2 c3 c4 hW1
  refine wp_region_rv 17 GK (kindW [(9, (fun v => v = .string C), (fun _ _ => True))]) (by kernel_rfl) (by kernel_rfl) (kb_trans _) (kb_refl _) (kb_start _ _) (kindW_mono _ (by intro p hp; simp only [List.mem_cons, List.not_mem_nil, or_false] at hp; (subst hp; exact lasts_true))) ?_
  simp only [List.take_succ_cons, List.take_zero, List.drop_succ_cons, List.drop_zero]
  iterate 9 (refine rv_det (by kernel_rfl) rfl (by intro w hG hH; have hc0 := KB.cell hG (fun x => x) (p0); have hc1 := KB.cell hG (fun x => x) (d4); have hc2 := KB.cell hG (fun x => x) (hm0); go_simp; first | done | with_reducible rfl) ?_; simp only [Act.put, List.setIfInBounds_toArray, List.set_cons_zero, List.set_cons_succ])
  refine rv_rel (by kernel_rfl) rfl ⟨_, rfl⟩ (by
    intro w hG hH
    refine opVal_call (by go_simp; first | done | exact ⟨⟨rfl, rfl⟩, rfl⟩) ?_
    refine (HWH.out _ (HP.out.2.2.1.trans hG)).mono ?_
    rintro e w' ⟨rfl, hq⟩
    exact ⟨_, rfl, rfl, by first | (obtain ⟨nq, rfl⟩ := hq; exact (KB.refl _ _).drewN _) | (subst hq; exact KB.refl _ _) | exact hq, trivial⟩) ?_
  rintro v rfl
  simp only [Act.put, List.setIfInBounds_toArray, List.set_cons_zero, List.set_cons_succ]
  iterate 7 (refine rv_det (by kernel_rfl) rfl (by intro w hG hH; have hc0 := KB.cell hG (fun x => x) (p0); have hc1 := KB.cell hG (fun x => x) (d4); have hc2 := KB.cell hG (fun x => x) (hm1); go_simp; first | done | with_reducible rfl) ?_; simp only [Act.put, List.setIfInBounds_toArray, List.set_cons_zero, List.set_cons_succ])
  refine rv_nil (fun w hG hH => ?_)
  have hk1 := HP.out.2.2.1.trans hG
  have hbn := hG.heap (fun x => x) HP.out.2.2.2
  have hbl := HBL.out w (HP.out.1.kb hk1) hk1
  have HBL2 := Lib.hid hbl
  have HG := Lib.hid (And.intro hk1 hbn)
  clear hG hH hk1 hbn hbl HBL HWH p0 d4 hm0 hm1
  go_wp2_with fail
  refine HBL2.out.mono ?_
  rintro e w2 ⟨rfl, v2, hp2, ht2⟩
  have hXN : w0.heap.size ≠ X := by have := HQ.out.2.2.2.1; omega
  have hvN : v.ownBlock ≠ some w0.heap.size := fun e => by have := (HQ.out.2.2.2.2.1 _ e).2; omega
  have hbn2 := ht2.far hXN hvN HG.out.2
  have hb2 := ht2.base (HP.out.1.kb HG.out.1) (HP.out.2.1.trans HG.out.1) HQ.out.2.2.1
  have ht02 : PgTo w0 w2 X v v2 := (PgTo.of HG.out.1).trans ht2
  have d2 : w2.cell? ⟨w0.heap.size, 2, none⟩ = some (.int .i64 m) := blk_cell hbn2 2
  have d4 : w2.cell? ⟨w0.heap.size, 4, none⟩ = some (.slice (some ⟨lb, lo, none⟩) M lc) := blk_cell hbn2 4
  have H2 := Lib.hid (And.intro hp2 (And.intro ht02 (And.intro hb2 hbn2)))
  clear hp2 ht2 hbn2 hb2 ht02 hXN hvN HBL2 HG HW HP
  rcases H01.out with rfl | rfl
  · go_wp2_with fail
    go_end0
    refine ⟨rfl, v2, ?_, H2.out.2.1⟩
    rw [HR.out]
    exact H2.out.1
  · obtain ⟨q2, hM2, hq2, hnq2, hq2N, hkq, hkk, hwq, hB2, hC2, b', off', hab, hkc⟩ := HK2.out rfl
    simp only [Option.some.injEq, Addr.mk.injEq, and_true] at hab
    obtain ⟨rfl, rfl⟩ := hab
    have hcc := HC2.out hM2
    have HQ2 := Lib.hid hq2
    rw [hq2] at hcc
    have hcc := H2.out.2.2.1.cell (p := ⟨lb, lo + 2, none⟩) (fun x => x) hcc
    have hkc := H2.out.2.2.1.cell (p := ⟨b, off + q2 * 5, none⟩) (fun x => x) hkc
    have p0 : w2.cell? ⟨X, 0, none⟩ = some (.slice (some ⟨b, off, none⟩) N cap) := blk_cell H2.out.1.blk 0
    have hM2i : (2 : Int) < (M : Int) := by omega
    have hq2i : (q2 : Int) < (N : Int) := by rw [HNN.out.1]; omega
    obtain ⟨B0, hB0⟩ := HB2.out
    have hlB0 : B0.length + 1 ≤ 2 * wt1 ts q1 := by
      have := HQ.out.2.2.2.2.2.1
      rw [hB0, List.length_append, List.length_singleton] at this
      exact this
    have hp2 := H2.out.1
    rw [hB0, ← List.append_assoc] at hp2
    have hgoal : ∀ S2, o ++ ((St5 ts q1 inn (Pre ++ H)).dropLast ++ S2) = (o ++ B0) ++ S2 := fun S2 => by
      rw [hB0, List.dropLast_concat, List.append_assoc]
    have hoB : (o ++ B0).length + 2 * wt1 ts q2 ≤ 1000000 := by
      have h1 := HQ.out.2.1
      have h2 := HQ.out.2.2.2.2.2.2
      rw [List.length_append]
      omega
    have hbs := blB_size inn
    have hPz : (blB inn ++ ⟨#[125]⟩).size ≤ 100000 := by
      rw [ByteArray.size_append]
      have : (⟨#[125]⟩ : ByteArray).size = 1 := rfl
      have := HQ.out.1
      omega
    have HGO := Lib.hid (And.intro hgoal (And.intro hoB (And.intro hPz (And.intro hp2 hkq))))
    have HBB := Lib.hid hB2
    have HCC := Lib.hid hC2
    have HN2 := Lib.hid (And.intro hnq2 hq2N)
    unfold BlockAt at HBB
    unfold ChoiceAt at HCC
    rw [← HNN.out.1] at HBB HCC
    clear hq2 hnq2 hq2N hkq hwq hB2 hC2 hB0 hlB0 hp2 hgoal hoB hbs hPz
    have hM2t : 2 < M := hM2
    have HR2 : Hid (R = (St5 ts q1 inn (Pre ++ H)).dropLast ++ St5 ts (kid ⟨16, at_, 1, s, l⟩ 2) inn (blB inn ++ ⟨#[125, 32, 101, 108, 115, 101, 32]⟩)) := Lib.hid (by rw [HR.out, if_neg (by decide), if_pos hM2t])
    clear HR
    rcases hkk with e | e
    · rw [e] at hkc
      have hkc : w2.cell? ⟨b, off + q2 * 5, none⟩ = some (.int .u8 13) := hkc
      have HEE := Lib.hid e
      clear e
      go_wp2_with fail
      refine wp_region_rv 13 GK (kindW []) (by kernel_rfl) (by kernel_rfl) (kb_trans _) (kb_refl _) (kb_start _ _) (kindW_mono _ (by intro p hp; cases hp)) ?_
      simp only [List.take_succ_cons, List.take_zero, List.drop_succ_cons, List.drop_zero]
      iterate 13 (refine rv_det (by kernel_rfl) rfl (by intro w hG hH; have hc0 := KB.cell hG (fun x => x) (p0); have hc1 := KB.cell hG (fun x => x) (d4); have hc2 := KB.cell hG (fun x => x) (hcc); have hc3 := KB.cell hG (fun x => x) (hkc); go_simp; first | done | with_reducible rfl) ?_; simp only [Act.put, List.setIfInBounds_toArray, List.set_cons_zero, List.set_cons_succ])
      refine rv_nil (fun w hG hH => ?_)
      have hp3 := HGO.out.2.2.2.1.kb hG
      have hbl := HBB.out w v2 (o ++ B0) _ inn (blB inn ++ ⟨#[125]⟩) ⟨#[32, 101, 108, 115, 101, 32]⟩ 141 HEE.out hp3 (H2.out.2.2.1.trans hG) (by have := HQ.out.1; have := HN2.out.1; omega) HGO.out.2.1 (by decide) (begins_more hp3 (by have := HGO.out.2.2.1; omega) (by have := HGO.out.2.1; omega)) enters_more
      rw [else_txt] at hbl
      have HX := Lib.hid hbl
      have d4 : w.cell? ⟨w0.heap.size, 4, none⟩ = some (.slice (some ⟨lb, lo, none⟩) M lc) := hG.cell (p := ⟨w0.heap.size, 4, none⟩) (fun x => x) d4
      have hcc := hG.cell (p := ⟨lb, lo + 2, none⟩) (fun x => x) hcc
      have HT := Lib.hid (H2.out.2.1.trans (PgTo.of hG))
      clear hp3 hbl hG hH d2 p0 hkc
      go_wp2_with fail
      refine HX.out.mono ?_
      rintro e w4 ⟨rfl, v4, hp4, ht4⟩
      have H4 := Lib.hid (And.intro hp4 (HT.out.trans ht4))
      clear hp4 ht4 HX HT d4 hcc
      go_wp2_with fail
      go_end0
      refine ⟨rfl, v4, ?_, H4.out.2⟩
      rw [HR2.out, HGO.out.1, HGO.out.2.2.2.2]
      exact H4.out.1
    · rw [e] at hkc
      have hkc : w2.cell? ⟨b, off + q2 * 5, none⟩ = some (.int .u8 16) := hkc
      have HEE := Lib.hid e
      clear e
      go_wp2_with fail
      refine wp_region_rv 13 GK (kindW []) (by kernel_rfl) (by kernel_rfl) (kb_trans _) (kb_refl _) (kb_start _ _) (kindW_mono _ (by intro p hp; cases hp)) ?_
      simp only [List.take_succ_cons, List.take_zero, List.drop_succ_cons, List.drop_zero]
      iterate 13 (refine rv_det (by kernel_rfl) rfl (by intro w hG hH; have hc0 := KB.cell hG (fun x => x) (p0); have hc1 := KB.cell hG (fun x => x) (d4); have hc2 := KB.cell hG (fun x => x) (hcc); have hc3 := KB.cell hG (fun x => x) (hkc); go_simp; first | done | with_reducible rfl) ?_; simp only [Act.put, List.setIfInBounds_toArray, List.set_cons_zero, List.set_cons_succ])
      refine rv_nil (fun w hG hH => ?_)
      have hp3 := HGO.out.2.2.2.1.kb hG
      have hmo := more_any X _ v2 (o ++ B0) (blB inn ++ ⟨#[125]⟩) inn ⟨#[32, 101, 108, 115, 101, 32]⟩ w hp3 (by have := HGO.out.2.2.1; have : (⟨#[32, 101, 108, 115, 101, 32]⟩ : ByteArray).size = 6 := rfl; omega) (by have := HGO.out.2.1; omega)
      rw [else_txt] at hmo
      have HX := Lib.hid hmo
      have hbn3 := hG.heap (fun x => x) H2.out.2.2.2
      have HG3 := Lib.hid (And.intro hp3 (And.intro (H2.out.2.2.1.trans hG) (And.intro hbn3 (H2.out.2.1.trans (PgTo.of hG)))))
      clear hp3 hmo hG hH d2 d4 p0 hkc hcc hbn3
      go_wp2_with fail
      refine HX.out.mono ?_
      rintro e w4 ⟨rfl, v4, hp4, ht4⟩
      have hXN : w0.heap.size ≠ X := by have := HQ.out.2.2.2.1; omega
      have hvN : v2.ownBlock ≠ some w0.heap.size := fun e => by
        rcases H2.out.2.1.fresh _ e with f | f
        · have := (HQ.out.2.2.2.2.1 _ f).2; omega
        · obtain ⟨cu, h1, -⟩ := own_block H2.out.1.own e
          have h2 := H2.out.2.2.2
          rw [h1] at h2
          cases h2
      have hbn4 := ht4.far hXN hvN HG3.out.2.2.1
      have hb4 := ht4.base HG3.out.1 HG3.out.2.1 HQ.out.2.2.1
      have d4 : w4.cell? ⟨w0.heap.size, 4, none⟩ = some (.slice (some ⟨lb, lo, none⟩) M lc) := blk_cell hbn4 4
      have hcc := hb4.cell (p := ⟨lb, lo + 2, none⟩) (fun x => x) (by have := HC2.out hM2t; rw [HQ2.out] at this; exact this)
      have hbl := HCC.out w4 v4 (o ++ B0) _ inn (blB inn ++ ⟨#[125, 32, 101, 108, 115, 101, 32]⟩) 141 HEE.out hp4 hb4 (by have := HQ.out.1; have := HN2.out.1; omega) HGO.out.2.1 (begins_more hp4 (by
        have hz := HGO.out.2.2.1
        rw [ByteArray.size_append] at hz ⊢
        have e1 : (⟨#[125]⟩ : ByteArray).size = 1 := rfl
        have e2 : (⟨#[125, 32, 101, 108, 115, 101, 32]⟩ : ByteArray).size = 7 := rfl
        omega) (by have := HGO.out.2.1; omega)) enters_more
      have HY := Lib.hid hbl
      have HT := Lib.hid (HG3.out.2.2.2.trans ht4)
      clear hbl hp4 ht4 hXN hvN hbn4 hb4 HX HG3
      go_wp2_with fail
      refine HY.out.mono ?_
      rintro e w5 ⟨rfl, v5, hp5, ht5⟩
      have H5 := Lib.hid (And.intro hp5 (HT.out.trans ht5))
      clear hp5 ht5 HY HT d4 hcc
      go_wp2_with fail
      go_end0
      refine ⟨rfl, v5, ?_, H5.out.2⟩
      rw [HR2.out, HGO.out.1, HGO.out.2.2.2.2]
      exact H5.out.1
end Go.Proofs.YtoophdcagpfmpaaGreatDoor

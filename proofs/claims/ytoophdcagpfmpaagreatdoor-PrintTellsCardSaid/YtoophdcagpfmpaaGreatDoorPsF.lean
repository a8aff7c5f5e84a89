/- loanwordref05: a statement's lines. -/
import Derived.Test.YtoophdcagpfmpaaGreatDoorPsE
namespace Go.Proofs.YtoophdcagpfmpaaGreatDoor
open Go.RowKit

theorem stmt_kinds {k : Nat} (h : isStmtB k = true) : k = 13 ∨ k = 14 ∨ k = 15 ∨ k = 16 ∨ k = 17 ∨ k = 18 ∨ k = 19 ∨ k = 20 ∨ k = 21 ∨ k = 22 ∨ k = 23 := by
  unfold isStmtB at h
  simp only [Bool.or_eq_true, Bool.and_eq_true, decide_eq_true_eq] at h
  omega
set_option maxRecDepth 100000 in
set_option maxHeartbeats 32000000 in
theorem rstmt_step (ts : List Nd) (h : TOk ts) (hok : ∀ x ∈ ts, NdOk x) (a : Option Addr) (cap : Nat) (wb : World) (n : Nat) (hts : NodesAt wb a ts) (hT : PT wb) (hi : n < ts.length)
    (ihB : ∀ q, n < q → q < ts.length → RBlk ts a cap wb q) (hBn : RBlk ts a cap wb n) (hCn : RIff ts a cap wb n) : RStm ts a cap wb n := by
  intro w inn hb hks hin
  obtain ⟨w0, rfl⟩ : ∃ w0, w0 = w := ⟨_, rfl⟩
  have hlen := h.len
  obtain ⟨R, hR⟩ : ∃ R, R = St5 ts n inn (blB inn) := ⟨_, rfl⟩
  rw [← hR]
  have HRn := Lib.hid hR
  rw [St_eq h.down hi] at hR
  have htx := h.txt hi
  have hez : ∀ q, q < ts.length → (Ex ts q 1).size ≤ 4000000 := fun q hq => by
    have h1 := Ex_size h hok 1 hq
    have h2 := wt1_pos h.good hq
    omega
  have htz : ∀ q, q < ts.length → (Ty ts q).size ≤ 4000000 := fun q hq => by
    have h1 := Ty_size h hq
    have h2 := wt1_pos h.good hq
    omega
  have hx_ : ∀ i, i < (ts.getD n nd0).l.length → isExprB (ts.getD (kid (ts.getD n nd0) i) nd0).k = true → ∃ q : Nat, (ts.getD n nd0).l.getD i 0 = (q : Int) ∧ exK ts (ts.getD n nd0) i = Ex ts q 1 ∧ (Ex ts q 1).size ≤ 4000000 ∧ ∀ W, KB F0 wb W → TxtCall 47 #[.agg #[.slice a ts.length cap], .int .i64 q, .int .i64 1] W (Ex ts q 1) := fun i hi2 he => by
    have e2 := h.kid hi hi2
    exact ⟨_, e2.2.2, if_pos hi2, hez _ e2.2.1, fun W hk => rexpr_any ts h hok a cap _ 1 W e2.2.1 (by omega) (hts.kbF hk) (hT.kb hk) he⟩
  have hy_ : ∀ i, i < (ts.getD n nd0).l.length → isTypeB (ts.getD (kid (ts.getD n nd0) i) nd0).k = true → ∃ q : Nat, (ts.getD n nd0).l.getD i 0 = (q : Int) ∧ tyK ts (ts.getD n nd0) i = Ty ts q ∧ (Ty ts q).size ≤ 4000000 ∧ ∀ W, KB F0 wb W → TxtCall 49 #[.agg #[.slice a ts.length cap], .int .i64 q] W (Ty ts q) := fun i hi2 he => by
    have e2 := h.kid hi hi2
    exact ⟨_, e2.2.2, if_pos hi2, htz _ e2.2.1, fun W hk => typ_any ts h a cap _ W e2.2.1 (hts.kbF hk) he⟩
  have hb_ : ∀ i, i < (ts.getD n nd0).l.length → (ts.getD (kid (ts.getD n nd0) i) nd0).k = 13 → ∃ q : Nat, (ts.getD n nd0).l.getD i 0 = (q : Int) ∧ (∀ inn P, (if i < (ts.getD n nd0).l.length then St5 ts (kid (ts.getD n nd0) i) inn P else []) = St5 ts q inn P) ∧
      ∀ (hd : ByteArray) W, KB F0 wb W → hd.size ≤ 1000000000 → Calls Tryz.prog 79 #[.agg #[.slice a ts.length cap], .int .i64 q, .int .i64 inn, .string hd, .string ⟨#[]⟩] W (LnEnd W (St5 ts q inn (blB inn ++ hd))) := fun i hi2 he => by
    have e2 := h.kid hi hi2
    have hq := e2.1
    exact ⟨_, e2.2.2, fun inn P => if_pos hi2, fun hd W hk hs => ihB _ hq e2.2.1 W inn hd hk he (by omega) hs⟩
  have H1 := Lib.hid (fun (e : (ts.getD n nd0).k = 21 ∨ (ts.getD n nd0).k = 22) => (show _ ∧ _ from ⟨(h.ex1 hi (by omega)).1, hx_ 0 (by have := (h.ex1 hi (by omega)).1; omega) (h.ex1 hi (by omega)).2⟩))
  have H2 := Lib.hid (fun (e : (ts.getD n nd0).k = 23) => (show _ ∧ _ from ⟨(h.expr hi e).1, hx_ 0 (by have := (h.expr hi e).1; omega) (h.expr hi e).2⟩))
  have H3 := Lib.hid (fun (e : (ts.getD n nd0).k = 15) => (show _ ∧ _ ∧ _ from ⟨(h.ex2 hi (by omega)).1, hx_ 0 (by have := (h.ex2 hi (by omega)).1; omega) (h.ex2 hi (by omega)).2.1, hx_ 1 (by have := (h.ex2 hi (by omega)).1; omega) (h.ex2 hi (by omega)).2.2⟩))
  have H4 := Lib.hid (fun (e : (ts.getD n nd0).k = 17) => (show _ ∧ _ ∧ _ from ⟨(h.while_ hi e).1, hx_ 0 (by have := (h.while_ hi e).1; omega) (h.while_ hi e).2.1, hb_ 1 (by have := (h.while_ hi e).1; omega) (h.while_ hi e).2.2⟩))
  have H5 := Lib.hid (fun (e : (ts.getD n nd0).k = 18) => (show _ ∧ _ from ⟨(h.loop hi e).1, hb_ 0 (by have := (h.loop hi e).1; omega) (h.loop hi e).2⟩))
  have H6 := Lib.hid (fun (e : (ts.getD n nd0).k = 14) => (show ((ts.getD n nd0).n = 1 ∧ (ts.getD n nd0).l.length = 1 ∧ _) ∨ ((ts.getD n nd0).n = 2 ∧ (ts.getD n nd0).l.length = 1 ∧ _) ∨ ((ts.getD n nd0).n = 3 ∧ (ts.getD n nd0).l.length = 2 ∧ _ ∧ _) from by
    rcases h.let_ hi e with ⟨e1, e2, e3⟩ | ⟨e1, e2, e3⟩ | ⟨e1, e2, e3, e4⟩
    · exact Or.inl ⟨e1, e2, hy_ 0 (by omega) e3⟩
    · exact Or.inr (Or.inl ⟨e1, e2, hx_ 0 (by omega) e3⟩)
    · exact Or.inr (Or.inr ⟨e1, e2, hy_ 0 (by omega) e3, hx_ 1 (by omega) e4⟩)))
  have H8 := Lib.hid (fun (e : (ts.getD n nd0).k = 13) (W : World) (hk : KB F0 w0 W) => hBn W inn ⟨#[]⟩ (hb.trans hk) e hin (by decide))
  have H9 := Lib.hid (fun (e : (ts.getD n nd0).k = 16) (W : World) (hk : KB F0 w0 W) => hCn W inn ⟨#[]⟩ (hb.trans hk) e hin (by decide))
  have BK := Lib.hid (fun (W : World) => blanks_any inn (by omega) W)
  have hbz := blB_size inn
  have hii : inn ≤ 16384 := by omega
  obtain ⟨b, off, rfl, hx⟩ := hts n hi
  have hks := stmt_kinds hks
  clear hx_ hy_ hb_ hez htz ihB hBn hCn hok hts hT h
  generalize ts.getD n nd0 = x at hx hks hR htx H1 H2 H3 H4 H5 H6 H8 H9
  obtain ⟨la, lc, hl4, hints, hlc, hlm⟩ := hx.l
  unfold maxLen at hlm
  obtain ⟨k, at_, m, s, l⟩ := x
  simp only at hks hR htx H1 H2 H3 H4 H5 H6 H8 H9 hl4 hints hlc
  obtain ⟨M, hM⟩ : ∃ M, M = l.length := ⟨_, rfl⟩
  rw [← hM] at hl4 hlc
  obtain ⟨N, hN⟩ : ∃ N, N = ts.length := ⟨_, rfl⟩
  rw [← hN] at H1 H2 H3 H4 H5 H6 H8 H9 hi hlen ⊢
  obtain ⟨W1, hW1⟩ : ∃ W1, W1 = w0.alloc (.cells #[.slice (some ⟨b, off, none⟩) N cap] 24) := ⟨_, rfl⟩
  obtain ⟨W2, hW2⟩ : ∃ W2, W2 = W1.alloc (.cells #[.int .u8 (k : Nat), .int .i64 at_, .int .i64 m, .string s, .slice la M lc] 44) := ⟨_, rfl⟩
  have k1 : KB F0 w0 W1 := by rw [hW1]; exact (KB.refl _ _).alloc _
  have k12 : KB F0 W1 W2 := by rw [hW2]; exact (KB.refl _ _).alloc _
  have hs1 : W1.heap.size = w0.heap.size + 1 := by rw [hW1]; simp
  have hbT : W2.heap[w0.heap.size]? = some (.cells #[.slice (some ⟨b, off, none⟩) N cap] 24 (0, 0)) := k12.heap (fun x => x) (by rw [hW1]; exact alloc_new _ _)
  have hbX : W2.heap[w0.heap.size + 1]? = some (.cells #[.int .u8 (k : Nat), .int .i64 at_, .int .i64 m, .string s, .slice la M lc] 44 (0, 0)) := by rw [hW2, ← hs1]; exact alloc_new _ _
  have kb1 := hb.trans k1
  have c0 : W1.cell? ⟨b, off + n * 5, none⟩ = some (.int .u8 (k : Nat)) := kb1.cell (p := ⟨b, off + n * 5, none⟩) (fun x => x) hx.k
  have c1 : W1.cell? ⟨b, off + n * 5 + 1, none⟩ = some (.int .i64 at_) := kb1.cell (p := ⟨b, off + n * 5 + 1, none⟩) (fun x => x) hx.at_
  have c2 : W1.cell? ⟨b, off + n * 5 + 2, none⟩ = some (.int .i64 m) := kb1.cell (p := ⟨b, off + n * 5 + 2, none⟩) (fun x => x) hx.n
  have c3 : W1.cell? ⟨b, off + n * 5 + 3, none⟩ = some (.string s) := kb1.cell (p := ⟨b, off + n * 5 + 3, none⟩) (fun x => x) hx.s
  have c4 := kb1.cell (p := ⟨b, off + n * 5 + 4, none⟩) (fun x => x) hl4
  have k2 := k1.trans k12
  have HI := Lib.hid (fun i (hi2 : i < M) => hints i (by rw [← hM]; exact hi2))
  have HM := Lib.hid hM
  have HK := Lib.hid (And.intro k2 (And.intro (hb.trans k2) (And.intro hbT hbX)))
  have HW := Lib.hid (And.intro hW1 hW2)
  have HX := Lib.hid htx
  have i1 : (n : Int) < (N : Int) := by omega
  have hfin : ∀ (W : World) (L : List ByteArray), KB F0 w0 W → ∀ (e : Ending) (w' : World), LnEnd W L e w' → R = L → LnEnd w0 R e w' := fun W L hk e w' ⟨v, h1, h2, h3⟩ hl => ⟨v, h1, by rw [hl]; exact own_low h2 hk.size, hk.trans h3⟩
  have hone : ∀ (W : World) (Z : ByteArray), KB F0 w0 W → R = [Z] → LnEnd w0 R (.returned (.slice (some ⟨W.heap.size, 0, none⟩) 1 1)) (W.alloc (.cells #[.string Z] 9)) := fun W Z hk hl => ⟨_, rfl, by rw [hl]; exact own_one W Z hk.size, hk.alloc _⟩
  have HF := Lib.hid hfin
  have HO := Lib.hid hone
  have HR := Lib.hid hR
  rw [hW1] at c0 c1 c2 c3 c4
  clear hx hl4 hints hb hin hM hN k1 k12 hs1 hbT hbX kb1 k2 htx hfin hone hR hlc hlen hi
  rcases hks with rfl | rfl | rfl | rfl | rfl | rfl | rfl | rfl | rfl | rfl | rfl
  · -- 13
    have hc := H8.out rfl W2 HK.out.1
    rw [show blB inn ++ (⟨#[]⟩ : ByteArray) = blB inn from ByteArray.append_empty, ← HRn.out] at hc
    have HC := Lib.hid hc
    clear hc
    rw [show ((13 : Nat) : Int) = 13 from rfl] at c0 HW
    clear hW1 hW2
    go_enter Tryz.func56, Tryz.ntmps56
    go_wp2_with fail
    rw [← HW.out.1, ← HW.out.2]
    clear c0 c1 c2 c3 c4
    refine HC.out.mono ?_
    rintro e w5 hq5
    have H5 := Lib.hid hq5
    obtain ⟨v5, rfl, -, -⟩ := hq5
    go_wp2_with fail
    go_ret
    exact HF.out _ _ HK.out.1 _ _ H5.out rfl
  · -- 14
    have hE : R = [blB inn ++ (letB ts ⟨14, at_, m, s, l⟩ ++ ⟨#[59]⟩)] := HR.out
    have hss := HX.out.2.1
    rcases H6.out rfl with ⟨rfl, hM1, q, hq, hyk, hz, hc⟩ | ⟨rfl, hM1, q, hq, hxk, hz, hc⟩ | ⟨rfl, hM1, ⟨q, hq, hyk, hz, hc⟩, q2, hq2, hxk, hz2, hc2⟩
    · -- let 1
      obtain rfl : M = 1 := by rw [HM.out]; exact hM1
      obtain ⟨lb, lo, rfl, hfirst⟩ := HI.out 0 (by rw [HM.out]; omega)
      clear hfirst
      have m0 := HI.out 0 (by rw [HM.out]; omega)
      obtain ⟨lb2, lo2, ee, m0⟩ := m0
      simp only [Option.some.injEq, Addr.mk.injEq, and_true] at ee
      obtain ⟨rfl, rfl⟩ := ee
      rw [hq] at m0
      have m0 := HK.out.2.1.cell (p := ⟨lb, lo + 0, none⟩) (fun x => x) m0
      rw [Nat.add_zero] at m0
      have hl := @let_txt ts ⟨14, at_, 1, s, l⟩ (Ty ts q) ByteArray.empty 
      rw [hl.1 rfl hyk] at hE
      clear hl
      have WH := Lib.hid (fun (W : World) (hk : KB F0 W2 W) => hc W (HK.out.2.1.trans hk))
      generalize Ty ts q = C at hz hE WH hc
      obtain ⟨A, hA⟩ : ∃ Z_ : ByteArray, ⟨#[108, 101, 116, 32]⟩ ++ s = Z_ := ⟨_, rfl⟩
      have sA : A.size = 4 + s.size := by rw [← hA, ByteArray.size_append]; rfl
      have zA : ¬ (9223372036854775807 < 4 + s.size) := by omega
      obtain ⟨B, hB⟩ : ∃ Z_ : ByteArray, A ++ ⟨#[58, 32]⟩ = Z_ := ⟨_, rfl⟩
      have sB : B.size = A.size + 2 := by rw [← hB, ByteArray.size_append]; rfl
      have zB : ¬ (9223372036854775807 < A.size + 2) := by omega
      obtain ⟨D, hD⟩ : ∃ Z_ : ByteArray, B ++ C = Z_ := ⟨_, rfl⟩
      have sD : D.size = B.size + C.size := by rw [← hD, ByteArray.size_append]
      have zD : ¬ (9223372036854775807 < B.size + C.size) := by omega
      generalize blB inn = BL at hbz BK hE
      obtain ⟨Y, hY⟩ : ∃ Z_ : ByteArray, BL ++ D = Z_ := ⟨_, rfl⟩
      have sY : Y.size = BL.size + D.size := by rw [← hY, ByteArray.size_append]
      have zY : ¬ (9223372036854775807 < BL.size + D.size) := by omega
      obtain ⟨Z, hZ⟩ : ∃ Z_ : ByteArray, Y ++ ⟨#[59]⟩ = Z_ := ⟨_, rfl⟩
      have zZ : ¬ (9223372036854775807 < Y.size + 1) := by omega
      have hE : R = [Z] := by rw [hE, ← hZ, ← hY, ← hD, ← hB, ← hA]; simp only [ByteArray.append_assoc]
      have HE := Lib.hid hE
      unfold TxtCall at WH
      clear hE sY hbz hss hz hc hq hM1 sA sB sD hyk
      rw [show ((14 : Nat) : Int) = 14 from rfl] at c0 HW
      clear hW1 hW2
      go_enter Tryz.func56, Tryz.ntmps56
      go_wp2_with fail
      rw [← HW.out.1, ← HW.out.2]
      clear c0 c1 c2 c3 c4
      have e4 : W2.cell? ⟨w0.heap.size, 0, none⟩ = some (.slice (some ⟨b, off, none⟩) N cap) := blk_cell HK.out.2.2.1 0
      have d4 : W2.cell? ⟨w0.heap.size + 1, 4, none⟩ = some (.slice (some ⟨lb, lo, none⟩) 1 lc) := blk_cell HK.out.2.2.2 4
      refine wp_region_rv 10 GK (kindW [(7, (fun v => v = .string C), (fun _ _ => True))]) (by kernel_rfl) (by kernel_rfl) (kb_trans _) (kb_refl _) (kb_start _ _) (kindW_mono _ (by intro p hp; simp only [List.mem_cons, List.not_mem_nil, or_false] at hp; (subst hp; exact lasts_true))) ?_
      simp only [List.take_succ_cons, List.take_zero, List.drop_succ_cons, List.drop_zero]
      iterate 7 (refine rv_det (by kernel_rfl) rfl (by intro w hG hH; have hc0 := KB.cell hG (fun x => x) (e4); have hc1 := KB.cell hG (fun x => x) (d4); have hc2 := KB.cell hG (fun x => x) (m0); go_simp; first | done | with_reducible rfl) ?_; simp only [Act.put, List.setIfInBounds_toArray, List.set_cons_zero, List.set_cons_succ])
      refine rv_rel (by kernel_rfl) rfl ⟨_, rfl⟩ (by
        intro w hG hH
        refine opVal_call (by go_simp; first | done | exact ⟨⟨rfl, rfl⟩, rfl⟩) ?_
        refine (WH.out _ hG).mono ?_
        rintro e w' ⟨rfl, hq⟩
        exact ⟨_, rfl, rfl, by first | (obtain ⟨nq, rfl⟩ := hq; exact (KB.refl _ _).drewN _) | (subst hq; exact KB.refl _ _) | exact hq, trivial⟩) ?_
      rintro v rfl
      simp only [Act.put, List.setIfInBounds_toArray, List.set_cons_zero, List.set_cons_succ]
      iterate 2 (refine rv_det (by kernel_rfl) rfl (by intro w hG hH; go_simp; first | done | with_reducible rfl) ?_; simp only [Act.put, List.setIfInBounds_toArray, List.set_cons_zero, List.set_cons_succ])
      refine rv_nil (fun w hG hH => ?_)
      have d2 : w.cell? ⟨w0.heap.size + 1, 2, none⟩ = some (.int .i64 1) := blk_cell (hG.heap (fun x => x) HK.out.2.2.2) 2
      have K := Lib.hid (HK.out.1.trans hG)
      clear hG hH d4 e4 m0
      go_wp2_with fail
      refine (BK.out _).mono ?_
      rintro e w5 ⟨rfl, rfl⟩
      go_wp2_with fail
      go_ret
      exact HO.out _ Z K.out HE.out
    · -- let 2
      obtain rfl : M = 1 := by rw [HM.out]; exact hM1
      obtain ⟨lb, lo, rfl, hfirst⟩ := HI.out 0 (by rw [HM.out]; omega)
      clear hfirst
      have m0 := HI.out 0 (by rw [HM.out]; omega)
      obtain ⟨lb2, lo2, ee, m0⟩ := m0
      simp only [Option.some.injEq, Addr.mk.injEq, and_true] at ee
      obtain ⟨rfl, rfl⟩ := ee
      rw [hq] at m0
      have m0 := HK.out.2.1.cell (p := ⟨lb, lo + 0, none⟩) (fun x => x) m0
      rw [Nat.add_zero] at m0
      have hl := @let_txt ts ⟨14, at_, 2, s, l⟩ ByteArray.empty (Ex ts q 1) 
      rw [hl.2.1 rfl (by rw [show l.length - 1 = 0 by omega]; exact hxk)] at hE
      clear hl
      have WH := Lib.hid (fun (W : World) (hk : KB F0 W2 W) => hc W (HK.out.2.1.trans hk))
      generalize Ex ts q 1 = C at hz hE WH hc
      obtain ⟨A, hA⟩ : ∃ Z_ : ByteArray, ⟨#[108, 101, 116, 32]⟩ ++ s = Z_ := ⟨_, rfl⟩
      have sA : A.size = 4 + s.size := by rw [← hA, ByteArray.size_append]; rfl
      have zA : ¬ (9223372036854775807 < 4 + s.size) := by omega
      obtain ⟨B, hB⟩ : ∃ Z_ : ByteArray, A ++ ⟨#[32, 61, 32]⟩ = Z_ := ⟨_, rfl⟩
      have sB : B.size = A.size + 3 := by rw [← hB, ByteArray.size_append]; rfl
      have zB : ¬ (9223372036854775807 < A.size + 3) := by omega
      obtain ⟨D, hD⟩ : ∃ Z_ : ByteArray, B ++ C = Z_ := ⟨_, rfl⟩
      have sD : D.size = B.size + C.size := by rw [← hD, ByteArray.size_append]
      have zD : ¬ (9223372036854775807 < B.size + C.size) := by omega
      generalize blB inn = BL at hbz BK hE
      obtain ⟨Y, hY⟩ : ∃ Z_ : ByteArray, BL ++ D = Z_ := ⟨_, rfl⟩
      have sY : Y.size = BL.size + D.size := by rw [← hY, ByteArray.size_append]
      have zY : ¬ (9223372036854775807 < BL.size + D.size) := by omega
      obtain ⟨Z, hZ⟩ : ∃ Z_ : ByteArray, Y ++ ⟨#[59]⟩ = Z_ := ⟨_, rfl⟩
      have zZ : ¬ (9223372036854775807 < Y.size + 1) := by omega
      have hE : R = [Z] := by rw [hE, ← hZ, ← hY, ← hD, ← hB, ← hA]; simp only [ByteArray.append_assoc]
      have HE := Lib.hid hE
      unfold TxtCall at WH
      clear hE sY hbz hss hz hc hq hM1 sA sB sD hxk
      rw [show ((14 : Nat) : Int) = 14 from rfl] at c0 HW
      clear hW1 hW2
      go_enter Tryz.func56, Tryz.ntmps56
      go_wp2_with fail
      rw [← HW.out.1, ← HW.out.2]
      clear c0 c1 c2 c3 c4
      have e4 : W2.cell? ⟨w0.heap.size, 0, none⟩ = some (.slice (some ⟨b, off, none⟩) N cap) := blk_cell HK.out.2.2.1 0
      have d4 : W2.cell? ⟨w0.heap.size + 1, 4, none⟩ = some (.slice (some ⟨lb, lo, none⟩) 1 lc) := blk_cell HK.out.2.2.2 4
      refine wp_region_rv 14 GK (kindW [(11, (fun v => v = .string C), (fun _ _ => True))]) (by kernel_rfl) (by kernel_rfl) (kb_trans _) (kb_refl _) (kb_start _ _) (kindW_mono _ (by intro p hp; simp only [List.mem_cons, List.not_mem_nil, or_false] at hp; (subst hp; exact lasts_true))) ?_
      simp only [List.take_succ_cons, List.take_zero, List.drop_succ_cons, List.drop_zero]
      iterate 11 (refine rv_det (by kernel_rfl) rfl (by intro w hG hH; have hc0 := KB.cell hG (fun x => x) (e4); have hc1 := KB.cell hG (fun x => x) (d4); have hc2 := KB.cell hG (fun x => x) (m0); go_simp; first | done | with_reducible rfl) ?_; simp only [Act.put, List.setIfInBounds_toArray, List.set_cons_zero, List.set_cons_succ])
      refine rv_rel (by kernel_rfl) rfl ⟨_, rfl⟩ (by
        intro w hG hH
        refine opVal_call (by go_simp; first | done | exact ⟨⟨rfl, rfl⟩, rfl⟩) ?_
        refine (WH.out _ hG).mono ?_
        rintro e w' ⟨rfl, hq⟩
        exact ⟨_, rfl, rfl, by first | (obtain ⟨nq, rfl⟩ := hq; exact (KB.refl _ _).drewN _) | (subst hq; exact KB.refl _ _) | exact hq, trivial⟩) ?_
      rintro v rfl
      simp only [Act.put, List.setIfInBounds_toArray, List.set_cons_zero, List.set_cons_succ]
      iterate 2 (refine rv_det (by kernel_rfl) rfl (by intro w hG hH; go_simp; first | done | with_reducible rfl) ?_; simp only [Act.put, List.setIfInBounds_toArray, List.set_cons_zero, List.set_cons_succ])
      refine rv_nil (fun w hG hH => ?_)
      have K := Lib.hid (HK.out.1.trans hG)
      clear hG hH d4 e4 m0
      go_wp2_with fail
      refine (BK.out _).mono ?_
      rintro e w5 ⟨rfl, rfl⟩
      go_wp2_with fail
      go_ret
      exact HO.out _ Z K.out HE.out
    · -- let 3
      obtain rfl : M = 2 := by rw [HM.out]; exact hM1
      obtain ⟨lb, lo, rfl, hfirst⟩ := HI.out 0 (by rw [HM.out]; omega)
      clear hfirst
      have m0 := HI.out 0 (by rw [HM.out]; omega)
      obtain ⟨lb2, lo2, ee, m0⟩ := m0
      simp only [Option.some.injEq, Addr.mk.injEq, and_true] at ee
      obtain ⟨rfl, rfl⟩ := ee
      rw [hq] at m0
      have m0 := HK.out.2.1.cell (p := ⟨lb, lo + 0, none⟩) (fun x => x) m0
      rw [Nat.add_zero] at m0
      have m1 := HI.out 1 (by rw [HM.out]; omega)
      obtain ⟨lb2, lo2, ee, m1⟩ := m1
      simp only [Option.some.injEq, Addr.mk.injEq, and_true] at ee
      obtain ⟨rfl, rfl⟩ := ee
      rw [hq2] at m1
      have m1 := HK.out.2.1.cell (p := ⟨lb, lo + 1, none⟩) (fun x => x) m1
      have hl := @let_txt ts ⟨14, at_, 3, s, l⟩ (Ty ts q) (Ex ts q2 1) 
      rw [hl.2.2 rfl hyk (by rw [show l.length - 1 = 1 by omega]; exact hxk)] at hE
      clear hl
      have WH := Lib.hid (fun (W : World) (hk : KB F0 W2 W) => hc W (HK.out.2.1.trans hk))
      have WH2 := Lib.hid (fun (W : World) (hk : KB F0 W2 W) => hc2 W (HK.out.2.1.trans hk))
      generalize Ty ts q = C at hz hE WH hc
      generalize Ex ts q2 1 = D at hz2 hE WH2 hc2
      obtain ⟨A, hA⟩ : ∃ Z_ : ByteArray, ⟨#[108, 101, 116, 32]⟩ ++ s = Z_ := ⟨_, rfl⟩
      have sA : A.size = 4 + s.size := by rw [← hA, ByteArray.size_append]; rfl
      have zA : ¬ (9223372036854775807 < 4 + s.size) := by omega
      obtain ⟨B, hB⟩ : ∃ Z_ : ByteArray, A ++ ⟨#[58, 32]⟩ = Z_ := ⟨_, rfl⟩
      have sB : B.size = A.size + 2 := by rw [← hB, ByteArray.size_append]; rfl
      have zB : ¬ (9223372036854775807 < A.size + 2) := by omega
      obtain ⟨E_, hE_⟩ : ∃ Z_ : ByteArray, B ++ C = Z_ := ⟨_, rfl⟩
      have sE_ : E_.size = B.size + C.size := by rw [← hE_, ByteArray.size_append]
      have zE_ : ¬ (9223372036854775807 < B.size + C.size) := by omega
      obtain ⟨G, hG⟩ : ∃ Z_ : ByteArray, E_ ++ ⟨#[32, 61, 32]⟩ = Z_ := ⟨_, rfl⟩
      have sG : G.size = E_.size + 3 := by rw [← hG, ByteArray.size_append]; rfl
      have zG : ¬ (9223372036854775807 < E_.size + 3) := by omega
      obtain ⟨J, hJ⟩ : ∃ Z_ : ByteArray, G ++ D = Z_ := ⟨_, rfl⟩
      have sJ : J.size = G.size + D.size := by rw [← hJ, ByteArray.size_append]
      have zJ : ¬ (9223372036854775807 < G.size + D.size) := by omega
      generalize blB inn = BL at hbz BK hE
      obtain ⟨Y, hY⟩ : ∃ Z_ : ByteArray, BL ++ J = Z_ := ⟨_, rfl⟩
      have sY : Y.size = BL.size + J.size := by rw [← hY, ByteArray.size_append]
      have zY : ¬ (9223372036854775807 < BL.size + J.size) := by omega
      obtain ⟨Z, hZ⟩ : ∃ Z_ : ByteArray, Y ++ ⟨#[59]⟩ = Z_ := ⟨_, rfl⟩
      have zZ : ¬ (9223372036854775807 < Y.size + 1) := by omega
      have hE : R = [Z] := by rw [hE, ← hZ, ← hY, ← hJ, ← hG, ← hE_, ← hB, ← hA]; simp only [ByteArray.append_assoc]
      have HE := Lib.hid hE
      unfold TxtCall at WH WH2
      clear hE sY hbz hss hz hc hq hM1 sA sB sE_ sG sJ hxk hyk hz2 hc2 hq2
      rw [show ((14 : Nat) : Int) = 14 from rfl] at c0 HW
      clear hW1 hW2
      go_enter Tryz.func56, Tryz.ntmps56
      go_wp2_with fail
      rw [← HW.out.1, ← HW.out.2]
      clear c0 c1 c2 c3 c4
      have e4 : W2.cell? ⟨w0.heap.size, 0, none⟩ = some (.slice (some ⟨b, off, none⟩) N cap) := blk_cell HK.out.2.2.1 0
      have d4 : W2.cell? ⟨w0.heap.size + 1, 4, none⟩ = some (.slice (some ⟨lb, lo, none⟩) 2 lc) := blk_cell HK.out.2.2.2 4
      refine wp_region_rv 10 GK (kindW [(7, (fun v => v = .string C), (fun _ _ => True))]) (by kernel_rfl) (by kernel_rfl) (kb_trans _) (kb_refl _) (kb_start _ _) (kindW_mono _ (by intro p hp; simp only [List.mem_cons, List.not_mem_nil, or_false] at hp; (subst hp; exact lasts_true))) ?_
      simp only [List.take_succ_cons, List.take_zero, List.drop_succ_cons, List.drop_zero]
      iterate 7 (refine rv_det (by kernel_rfl) rfl (by intro w hG hH; have hc0 := KB.cell hG (fun x => x) (e4); have hc1 := KB.cell hG (fun x => x) (d4); have hc2 := KB.cell hG (fun x => x) (m0); go_simp; first | done | with_reducible rfl) ?_; simp only [Act.put, List.setIfInBounds_toArray, List.set_cons_zero, List.set_cons_succ])
      refine rv_rel (by kernel_rfl) rfl ⟨_, rfl⟩ (by
        intro w hG hH
        refine opVal_call (by go_simp; first | done | exact ⟨⟨rfl, rfl⟩, rfl⟩) ?_
        refine (WH.out _ hG).mono ?_
        rintro e w' ⟨rfl, hq⟩
        exact ⟨_, rfl, rfl, by first | (obtain ⟨nq, rfl⟩ := hq; exact (KB.refl _ _).drewN _) | (subst hq; exact KB.refl _ _) | exact hq, trivial⟩) ?_
      rintro v rfl
      simp only [Act.put, List.setIfInBounds_toArray, List.set_cons_zero, List.set_cons_succ]
      iterate 2 (refine rv_det (by kernel_rfl) rfl (by intro w hG hH; go_simp; first | done | with_reducible rfl) ?_; simp only [Act.put, List.setIfInBounds_toArray, List.set_cons_zero, List.set_cons_succ])
      refine rv_nil (fun w hG hH => ?_)
      have d2 : w.cell? ⟨w0.heap.size + 1, 2, none⟩ = some (.int .i64 3) := blk_cell (hG.heap (fun x => x) HK.out.2.2.2) 2
      have e4 := hG.cell (p := ⟨w0.heap.size, 0, none⟩) (fun x => x) e4
      have d4 := hG.cell (p := ⟨w0.heap.size + 1, 4, none⟩) (fun x => x) d4
      have m1 := hG.cell (p := ⟨lb, lo + 1, none⟩) (fun x => x) m1
      have K := Lib.hid hG
      clear hG hH m0
      go_wp2_with fail
      obtain ⟨wz, rfl⟩ : ∃ wz, wz = w := ⟨_, rfl⟩
      refine wp_region_rv 14 GK (kindW [(11, (fun v => v = .string D), (fun _ _ => True))]) (by kernel_rfl) (by kernel_rfl) (kb_trans _) (kb_refl _) (kb_start _ _) (kindW_mono _ (by intro p hp; simp only [List.mem_cons, List.not_mem_nil, or_false] at hp; (subst hp; exact lasts_true))) ?_
      simp only [List.take_succ_cons, List.take_zero, List.drop_succ_cons, List.drop_zero]
      iterate 11 (refine rv_det (by kernel_rfl) rfl (by intro w hG hH; have hc0 := KB.cell hG (fun x => x) (e4); have hc1 := KB.cell hG (fun x => x) (d4); have hc2 := KB.cell hG (fun x => x) (m1); go_simp; first | done | with_reducible rfl) ?_; simp only [Act.put, List.setIfInBounds_toArray, List.set_cons_zero, List.set_cons_succ])
      refine rv_rel (by kernel_rfl) rfl ⟨_, rfl⟩ (by
        intro w hG hH
        refine opVal_call (by go_simp; first | done | exact ⟨⟨rfl, rfl⟩, rfl⟩) ?_
        refine (WH2.out _ (K.out.trans hG)).mono ?_
        rintro e w' ⟨rfl, hq⟩
        exact ⟨_, rfl, rfl, by first | (obtain ⟨nq, rfl⟩ := hq; exact (KB.refl _ _).drewN _) | (subst hq; exact KB.refl _ _) | exact hq, trivial⟩) ?_
      rintro v rfl
      simp only [Act.put, List.setIfInBounds_toArray, List.set_cons_zero, List.set_cons_succ]
      iterate 2 (refine rv_det (by kernel_rfl) rfl (by intro w hG hH; go_simp; first | done | with_reducible rfl) ?_; simp only [Act.put, List.setIfInBounds_toArray, List.set_cons_zero, List.set_cons_succ])
      refine rv_nil (fun w hG hH => ?_)
      have K := Lib.hid (HK.out.1.trans (K.out.trans hG))
      clear hG hH d4 e4 m1
      go_wp2_with fail
      refine (BK.out _).mono ?_
      rintro e w5 ⟨rfl, rfl⟩
      go_wp2_with fail
      go_ret
      exact HO.out _ Z K.out HE.out
  · -- 15
    obtain ⟨hM1, ⟨q, hq, hxk, hz, hc⟩, q2, hq2, hxk2, hz2, hc2⟩ := H3.out rfl
    have hE : R = [blB inn ++ (exK ts ⟨15, at_, m, s, l⟩ 0 ++ ⟨#[32, 61, 32]⟩ ++ exK ts ⟨15, at_, m, s, l⟩ 1 ++ ⟨#[59]⟩)] := HR.out
    rw [hxk, hxk2] at hE
    obtain rfl : M = 2 := by rw [HM.out]; exact hM1
    obtain ⟨lb, lo, rfl, hfirst⟩ := HI.out 0 (by rw [HM.out]; omega)
    clear hfirst
    have m0 := HI.out 0 (by rw [HM.out]; omega)
    obtain ⟨lb2, lo2, ee, m0⟩ := m0
    simp only [Option.some.injEq, Addr.mk.injEq, and_true] at ee
    obtain ⟨rfl, rfl⟩ := ee
    rw [hq] at m0
    have m0 := HK.out.2.1.cell (p := ⟨lb, lo + 0, none⟩) (fun x => x) m0
    rw [Nat.add_zero] at m0
    have m1 := HI.out 1 (by rw [HM.out]; omega)
    obtain ⟨lb2, lo2, ee, m1⟩ := m1
    simp only [Option.some.injEq, Addr.mk.injEq, and_true] at ee
    obtain ⟨rfl, rfl⟩ := ee
    rw [hq2] at m1
    have m1 := HK.out.2.1.cell (p := ⟨lb, lo + 1, none⟩) (fun x => x) m1
    have WH := Lib.hid (fun (W : World) (hk : KB F0 W2 W) => hc W (HK.out.2.1.trans hk))
    have WH2 := Lib.hid (fun (W : World) (hk : KB F0 W2 W) => hc2 W (HK.out.2.1.trans hk))
    generalize Ex ts q 1 = C at hz hE WH hc
    generalize Ex ts q2 1 = D at hz2 hE WH2 hc2
    obtain ⟨A, hA⟩ : ∃ Z_ : ByteArray, C ++ ⟨#[32, 61, 32]⟩ = Z_ := ⟨_, rfl⟩
    have sA : A.size = C.size + 3 := by rw [← hA, ByteArray.size_append]; rfl
    have zA : ¬ (9223372036854775807 < C.size + 3) := by omega
    obtain ⟨B, hB⟩ : ∃ Z_ : ByteArray, A ++ D = Z_ := ⟨_, rfl⟩
    have sB : B.size = A.size + D.size := by rw [← hB, ByteArray.size_append]
    have zB : ¬ (9223372036854775807 < A.size + D.size) := by omega
    generalize blB inn = BL at hbz BK hE
    obtain ⟨Y, hY⟩ : ∃ Z_ : ByteArray, BL ++ B = Z_ := ⟨_, rfl⟩
    have sY : Y.size = BL.size + B.size := by rw [← hY, ByteArray.size_append]
    have zY : ¬ (9223372036854775807 < BL.size + B.size) := by omega
    obtain ⟨Z, hZ⟩ : ∃ Z_ : ByteArray, Y ++ ⟨#[59]⟩ = Z_ := ⟨_, rfl⟩
    have zZ : ¬ (9223372036854775807 < Y.size + 1) := by omega
    have hE : R = [Z] := by rw [hE, ← hZ, ← hY, ← hB, ← hA]; simp only [ByteArray.append_assoc]
    have HE := Lib.hid hE
    unfold TxtCall at WH WH2
    clear hE sY hbz sA sB hz hz2 hc hc2 hxk hxk2 hq hq2 hM1
    rw [show ((15 : Nat) : Int) = 15 from rfl] at c0 HW
    clear hW1 hW2
    go_enter Tryz.func56, Tryz.ntmps56
    go_wp2_with fail
    rw [← HW.out.1, ← HW.out.2]
    clear c0 c1 c2 c3 c4
    have e4 : W2.cell? ⟨w0.heap.size, 0, none⟩ = some (.slice (some ⟨b, off, none⟩) N cap) := blk_cell HK.out.2.2.1 0
    have d4 : W2.cell? ⟨w0.heap.size + 1, 4, none⟩ = some (.slice (some ⟨lb, lo, none⟩) 2 lc) := blk_cell HK.out.2.2.2 4
    refine wp_region_rv 15 GK (kindW [(5, (fun v => v = .string C), (fun _ _ => True)), (12, (fun v => v = .string D), (fun _ _ => True))]) (by kernel_rfl) (by kernel_rfl) (kb_trans _) (kb_refl _) (kb_start _ _) (kindW_mono _ (by intro p hp; simp only [List.mem_cons, List.not_mem_nil, or_false] at hp; (rcases hp with rfl | rfl <;> exact lasts_true))) ?_
    simp only [List.take_succ_cons, List.take_zero, List.drop_succ_cons, List.drop_zero]
    iterate 5 (refine rv_det (by kernel_rfl) rfl (by intro w hG hH; have hc0 := KB.cell hG (fun x => x) (e4); have hc1 := KB.cell hG (fun x => x) (d4); have hc2 := KB.cell hG (fun x => x) (m0); go_simp; first | done | with_reducible rfl) ?_; simp only [Act.put, List.setIfInBounds_toArray, List.set_cons_zero, List.set_cons_succ])
    refine rv_rel (by kernel_rfl) rfl ⟨_, rfl⟩ (by
      intro w hG hH
      refine opVal_call (by go_simp; first | done | exact ⟨⟨rfl, rfl⟩, rfl⟩) ?_
      refine (WH.out _ hG).mono ?_
      rintro e w' ⟨rfl, hq⟩
      exact ⟨_, rfl, rfl, by first | (obtain ⟨nq, rfl⟩ := hq; exact (KB.refl _ _).drewN _) | (subst hq; exact KB.refl _ _) | exact hq, trivial⟩) ?_
    rintro v rfl
    simp only [Act.put, List.setIfInBounds_toArray, List.set_cons_zero, List.set_cons_succ]
    iterate 6 (refine rv_det (by kernel_rfl) rfl (by intro w hG hH; have hc0 := KB.cell hG (fun x => x) (e4); have hc1 := KB.cell hG (fun x => x) (d4); have hc2 := KB.cell hG (fun x => x) (m1); go_simp; first | done | with_reducible rfl) ?_; simp only [Act.put, List.setIfInBounds_toArray, List.set_cons_zero, List.set_cons_succ])
    refine rv_rel (by kernel_rfl) rfl ⟨_, rfl⟩ (by
      intro w hG hH
      refine opVal_call (by go_simp; first | done | exact ⟨⟨rfl, rfl⟩, rfl⟩) ?_
      refine (WH2.out _ hG).mono ?_
      rintro e w' ⟨rfl, hq⟩
      exact ⟨_, rfl, rfl, by first | (obtain ⟨nq, rfl⟩ := hq; exact (KB.refl _ _).drewN _) | (subst hq; exact KB.refl _ _) | exact hq, trivial⟩) ?_
    rintro v rfl
    simp only [Act.put, List.setIfInBounds_toArray, List.set_cons_zero, List.set_cons_succ]
    iterate 2 (refine rv_det (by kernel_rfl) rfl (by intro w hG hH; go_simp; first | done | with_reducible rfl) ?_; simp only [Act.put, List.setIfInBounds_toArray, List.set_cons_zero, List.set_cons_succ])
    refine rv_nil (fun w hG hH => ?_)
    have K := Lib.hid (HK.out.1.trans hG)
    clear hG hH d4 e4 m0 m1
    go_wp2_with fail
    refine (BK.out _).mono ?_
    rintro e w5 ⟨rfl, rfl⟩
    go_wp2_with fail
    go_ret
    exact HO.out _ Z K.out HE.out
  · -- 16
    have hc := H9.out rfl W2 HK.out.1
    rw [show blB inn ++ (⟨#[]⟩ : ByteArray) = blB inn from ByteArray.append_empty, ← HRn.out] at hc
    have HC := Lib.hid hc
    clear hc
    rw [show ((16 : Nat) : Int) = 16 from rfl] at c0 HW
    clear hW1 hW2
    go_enter Tryz.func56, Tryz.ntmps56
    go_wp2_with fail
    rw [← HW.out.1, ← HW.out.2]
    clear c0 c1 c2 c3 c4
    refine HC.out.mono ?_
    rintro e w5 hq5
    have H5 := Lib.hid hq5
    obtain ⟨v5, rfl, -, -⟩ := hq5
    go_wp2_with fail
    go_ret
    exact HF.out _ _ HK.out.1 _ _ H5.out rfl
  · -- 17
    obtain ⟨hM1, ⟨q, hq, hxk, hz, hc⟩, q2, hq2, hbk, hBl⟩ := H4.out rfl
    have hE : R = if 1 < l.length then St5 ts (kid ⟨17, at_, m, s, l⟩ 1) inn (blB inn ++ (⟨#[119, 104, 105, 108, 101, 32]⟩ ++ exK ts ⟨17, at_, m, s, l⟩ 0 ++ ⟨#[32]⟩)) else [] := HR.out
    rw [hbk, hxk] at hE
    obtain rfl : M = 2 := by rw [HM.out]; exact hM1
    obtain ⟨lb, lo, rfl, hfirst⟩ := HI.out 0 (by rw [HM.out]; omega)
    clear hfirst
    have m0 := HI.out 0 (by rw [HM.out]; omega)
    obtain ⟨lb2, lo2, ee, m0⟩ := m0
    simp only [Option.some.injEq, Addr.mk.injEq, and_true] at ee
    obtain ⟨rfl, rfl⟩ := ee
    rw [hq] at m0
    have m0 := HK.out.2.1.cell (p := ⟨lb, lo + 0, none⟩) (fun x => x) m0
    rw [Nat.add_zero] at m0
    have m1 := HI.out 1 (by rw [HM.out]; omega)
    obtain ⟨lb2, lo2, ee, m1⟩ := m1
    simp only [Option.some.injEq, Addr.mk.injEq, and_true] at ee
    obtain ⟨rfl, rfl⟩ := ee
    rw [hq2] at m1
    have m1 := HK.out.2.1.cell (p := ⟨lb, lo + 1, none⟩) (fun x => x) m1
    have WH := Lib.hid (fun (W : World) (hk : KB F0 W2 W) => hc W (HK.out.2.1.trans hk))
    generalize Ex ts q 1 = C at hz hE WH hc
    obtain ⟨A, hA⟩ : ∃ Z_ : ByteArray, ⟨#[119, 104, 105, 108, 101, 32]⟩ ++ C = Z_ := ⟨_, rfl⟩
    have sA : A.size = 6 + C.size := by rw [← hA, ByteArray.size_append]; rfl
    have zA : ¬ (9223372036854775807 < 6 + C.size) := by omega
    obtain ⟨B, hB⟩ : ∃ Z_ : ByteArray, A ++ ⟨#[32]⟩ = Z_ := ⟨_, rfl⟩
    have sB : B.size = A.size + 1 := by rw [← hB, ByteArray.size_append]; rfl
    have zB : ¬ (9223372036854775807 < A.size + 1) := by omega
    rw [hA, hB] at hE
    have HC := Lib.hid (fun (W : World) (hk : KB F0 W2 W) => hBl B W (HK.out.2.1.trans hk) (by omega))
    rw [← hE] at HC
    unfold TxtCall at WH
    clear hE sA sB hz hc hxk hq hq2 hbk hM1 hBl
    rw [show ((17 : Nat) : Int) = 17 from rfl] at c0 HW
    clear hW1 hW2
    go_enter Tryz.func56, Tryz.ntmps56
    go_wp2_with fail
    rw [← HW.out.1, ← HW.out.2]
    clear c0 c1 c2 c3 c4
    have e4 : W2.cell? ⟨w0.heap.size, 0, none⟩ = some (.slice (some ⟨b, off, none⟩) N cap) := blk_cell HK.out.2.2.1 0
    have d4 : W2.cell? ⟨w0.heap.size + 1, 4, none⟩ = some (.slice (some ⟨lb, lo, none⟩) 2 lc) := blk_cell HK.out.2.2.2 4
    refine wp_region_rv 14 GK (kindW [(11, (fun v => v = .string C), (fun _ _ => True))]) (by kernel_rfl) (by kernel_rfl) (kb_trans _) (kb_refl _) (kb_start _ _) (kindW_mono _ (by intro p hp; simp only [List.mem_cons, List.not_mem_nil, or_false] at hp; (subst hp; exact lasts_true))) ?_
    simp only [List.take_succ_cons, List.take_zero, List.drop_succ_cons, List.drop_zero]
    iterate 6 (refine rv_det (by kernel_rfl) rfl (by intro w hG hH; have hc0 := KB.cell hG (fun x => x) (e4); have hc1 := KB.cell hG (fun x => x) (d4); have hc2 := KB.cell hG (fun x => x) (m1); go_simp; first | done | with_reducible rfl) ?_; simp only [Act.put, List.setIfInBounds_toArray, List.set_cons_zero, List.set_cons_succ])
    iterate 5 (refine rv_det (by kernel_rfl) rfl (by intro w hG hH; have hc0 := KB.cell hG (fun x => x) (e4); have hc1 := KB.cell hG (fun x => x) (d4); have hc2 := KB.cell hG (fun x => x) (m0); go_simp; first | done | with_reducible rfl) ?_; simp only [Act.put, List.setIfInBounds_toArray, List.set_cons_zero, List.set_cons_succ])
    refine rv_rel (by kernel_rfl) rfl ⟨_, rfl⟩ (by
      intro w hG hH
      refine opVal_call (by go_simp; first | done | exact ⟨⟨rfl, rfl⟩, rfl⟩) ?_
      refine (WH.out _ hG).mono ?_
      rintro e w' ⟨rfl, hq⟩
      exact ⟨_, rfl, rfl, by first | (obtain ⟨nq, rfl⟩ := hq; exact (KB.refl _ _).drewN _) | (subst hq; exact KB.refl _ _) | exact hq, trivial⟩) ?_
    rintro v rfl
    simp only [Act.put, List.setIfInBounds_toArray, List.set_cons_zero, List.set_cons_succ]
    iterate 2 (refine rv_det (by kernel_rfl) rfl (by intro w hG hH; go_simp; first | done | with_reducible rfl) ?_; simp only [Act.put, List.setIfInBounds_toArray, List.set_cons_zero, List.set_cons_succ])
    refine rv_nil (fun w hG hH => ?_)
    have K := Lib.hid (And.intro hG (HK.out.1.trans hG))
    clear hG hH d4 e4 m0 m1
    go_wp2_with fail
    refine (HC.out _ K.out.1).mono ?_
    rintro e w5 hq5
    have H5 := Lib.hid hq5
    obtain ⟨v5, rfl, -, -⟩ := hq5
    go_wp2_with fail
    go_ret
    exact HF.out _ _ K.out.2 _ _ H5.out rfl
  · -- 18
    obtain ⟨hM1, q, hq, hbk, hB⟩ := H5.out rfl
    have hE : R = if 0 < l.length then St5 ts (kid ⟨18, at_, m, s, l⟩ 0) inn (blB inn ++ ⟨#[108, 111, 111, 112, 32]⟩) else [] := HR.out
    rw [hbk] at hE
    obtain rfl : M = 1 := by rw [HM.out]; exact hM1
    obtain ⟨lb, lo, rfl, hfirst⟩ := HI.out 0 (by rw [HM.out]; omega)
    clear hfirst
    have m0 := HI.out 0 (by rw [HM.out]; omega)
    obtain ⟨lb2, lo2, ee, m0⟩ := m0
    simp only [Option.some.injEq, Addr.mk.injEq, and_true] at ee
    obtain ⟨rfl, rfl⟩ := ee
    rw [hq] at m0
    have m0 := HK.out.2.1.cell (p := ⟨lb, lo + 0, none⟩) (fun x => x) m0
    rw [Nat.add_zero] at m0
    have HC := Lib.hid (fun (W : World) (hk : KB F0 W2 W) => hB ⟨#[108, 111, 111, 112, 32]⟩ W (HK.out.2.1.trans hk) (by decide))
    rw [← hE] at HC
    clear hE hB hq hbk hM1
    rw [show ((18 : Nat) : Int) = 18 from rfl] at c0 HW
    clear hW1 hW2
    go_enter Tryz.func56, Tryz.ntmps56
    go_wp2_with fail
    rw [← HW.out.1, ← HW.out.2]
    clear c0 c1 c2 c3 c4
    have e4 : W2.cell? ⟨w0.heap.size, 0, none⟩ = some (.slice (some ⟨b, off, none⟩) N cap) := blk_cell HK.out.2.2.1 0
    have d4 : W2.cell? ⟨w0.heap.size + 1, 4, none⟩ = some (.slice (some ⟨lb, lo, none⟩) 1 lc) := blk_cell HK.out.2.2.2 4
    refine wp_region_rv 6 GK (kindW []) (by kernel_rfl) (by kernel_rfl) (kb_trans _) (kb_refl _) (kb_start _ _) (kindW_mono _ (by intro p hp; cases hp)) ?_
    simp only [List.take_succ_cons, List.take_zero, List.drop_succ_cons, List.drop_zero]
    iterate 6 (refine rv_det (by kernel_rfl) rfl (by intro w hG hH; have hc0 := KB.cell hG (fun x => x) (e4); have hc1 := KB.cell hG (fun x => x) (d4); have hc2 := KB.cell hG (fun x => x) (m0); go_simp; first | done | with_reducible rfl) ?_; simp only [Act.put, List.setIfInBounds_toArray, List.set_cons_zero, List.set_cons_succ])
    refine rv_nil (fun w hG hH => ?_)
    have K := Lib.hid (And.intro hG (HK.out.1.trans hG))
    clear hG hH d4 e4 m0
    go_wp2_with fail
    refine (HC.out _ K.out.1).mono ?_
    rintro e w5 hq5
    have H5 := Lib.hid hq5
    obtain ⟨v5, rfl, -, -⟩ := hq5
    go_wp2_with fail
    go_ret
    exact HF.out _ _ K.out.2 _ _ H5.out rfl
  · -- 19
    have hE : R = [blB inn ++ ⟨#[98, 114, 101, 97, 107, 59]⟩] := HR.out
    generalize blB inn = BL at hbz BK hE
    obtain ⟨Y, hY⟩ : ∃ Z_ : ByteArray, BL ++ ⟨#[98, 114, 101, 97, 107]⟩ = Z_ := ⟨_, rfl⟩
    have sY : Y.size = BL.size + 5 := by rw [← hY, ByteArray.size_append]; rfl
    have zY : ¬ (9223372036854775807 < BL.size + 5) := by omega
    obtain ⟨Z, hZ⟩ : ∃ Z_ : ByteArray, Y ++ ⟨#[59]⟩ = Z_ := ⟨_, rfl⟩
    have zZ : ¬ (9223372036854775807 < Y.size + 1) := by omega
    have hE : R = [Z] := by rw [hE, ← hZ, ← hY, ByteArray.append_assoc]; rfl
    have HE := Lib.hid hE
    clear hE sY hbz
    rw [show ((19 : Nat) : Int) = 19 from rfl] at c0 HW
    clear hW1 hW2
    go_enter Tryz.func56, Tryz.ntmps56
    go_wp2_with fail
    rw [← HW.out.1, ← HW.out.2]
    clear c0 c1 c2 c3 c4
    refine (BK.out _).mono ?_
    rintro e w5 ⟨rfl, rfl⟩
    go_wp2_with fail
    go_ret
    exact HO.out _ Z HK.out.1 HE.out
  · -- 20
    have hE : R = [blB inn ++ ⟨#[99, 111, 110, 116, 105, 110, 117, 101, 59]⟩] := HR.out
    generalize blB inn = BL at hbz BK hE
    obtain ⟨Y, hY⟩ : ∃ Z_ : ByteArray, BL ++ ⟨#[99, 111, 110, 116, 105, 110, 117, 101]⟩ = Z_ := ⟨_, rfl⟩
    have sY : Y.size = BL.size + 8 := by rw [← hY, ByteArray.size_append]; rfl
    have zY : ¬ (9223372036854775807 < BL.size + 8) := by omega
    obtain ⟨Z, hZ⟩ : ∃ Z_ : ByteArray, Y ++ ⟨#[59]⟩ = Z_ := ⟨_, rfl⟩
    have zZ : ¬ (9223372036854775807 < Y.size + 1) := by omega
    have hE : R = [Z] := by rw [hE, ← hZ, ← hY, ByteArray.append_assoc]; rfl
    have HE := Lib.hid hE
    clear hE sY hbz
    rw [show ((20 : Nat) : Int) = 20 from rfl] at c0 HW
    clear hW1 hW2
    go_enter Tryz.func56, Tryz.ntmps56
    go_wp2_with fail
    rw [← HW.out.1, ← HW.out.2]
    clear c0 c1 c2 c3 c4
    refine (BK.out _).mono ?_
    rintro e w5 ⟨rfl, rfl⟩
    go_wp2_with fail
    go_ret
    exact HO.out _ Z HK.out.1 HE.out
  · -- 21
    obtain ⟨hM1, q, hq, hxk, hz, hc⟩ := H1.out (by omega)
    have hE : R = [blB inn ++ (⟨#[114, 101, 116, 117, 114, 110, 32]⟩ ++ exK ts ⟨21, at_, m, s, l⟩ 0 ++ ⟨#[59]⟩)] := HR.out
    rw [hxk] at hE
    obtain rfl : M = 1 := by rw [HM.out]; exact hM1
    obtain ⟨lb, lo, rfl, hfirst⟩ := HI.out 0 (by rw [HM.out]; omega)
    clear hfirst
    have m0 := HI.out 0 (by rw [HM.out]; omega)
    obtain ⟨lb2, lo2, ee, m0⟩ := m0
    simp only [Option.some.injEq, Addr.mk.injEq, and_true] at ee
    obtain ⟨rfl, rfl⟩ := ee
    rw [hq] at m0
    have m0 := HK.out.2.1.cell (p := ⟨lb, lo + 0, none⟩) (fun x => x) m0
    rw [Nat.add_zero] at m0
    have WH := Lib.hid (fun (W : World) (hk : KB F0 W2 W) => hc W (HK.out.2.1.trans hk))
    generalize Ex ts q 1 = C at hz hE WH hc
    obtain ⟨A, hA⟩ : ∃ Z_ : ByteArray, ⟨#[114, 101, 116, 117, 114, 110, 32]⟩ ++ C = Z_ := ⟨_, rfl⟩
    have sA : A.size = 7 + C.size := by rw [← hA, ByteArray.size_append]; rfl
    have zA : ¬ (9223372036854775807 < 7 + C.size) := by omega
    generalize blB inn = BL at hbz BK hE
    obtain ⟨Y, hY⟩ : ∃ Z_ : ByteArray, BL ++ A = Z_ := ⟨_, rfl⟩
    have sY : Y.size = BL.size + A.size := by rw [← hY, ByteArray.size_append]
    have zY : ¬ (9223372036854775807 < BL.size + A.size) := by omega
    obtain ⟨Z, hZ⟩ : ∃ Z_ : ByteArray, Y ++ ⟨#[59]⟩ = Z_ := ⟨_, rfl⟩
    have zZ : ¬ (9223372036854775807 < Y.size + 1) := by omega
    have hE : R = [Z] := by rw [hE, ← hZ, ← hY, ← hA]; simp only [ByteArray.append_assoc]
    have HE := Lib.hid hE
    unfold TxtCall at WH
    clear hE sY hbz hz hc hxk hq hM1 sA
    rw [show ((21 : Nat) : Int) = 21 from rfl] at c0 HW
    clear hW1 hW2
    go_enter Tryz.func56, Tryz.ntmps56
    go_wp2_with fail
    rw [← HW.out.1, ← HW.out.2]
    clear c0 c1 c2 c3 c4
    have e4 : W2.cell? ⟨w0.heap.size, 0, none⟩ = some (.slice (some ⟨b, off, none⟩) N cap) := blk_cell HK.out.2.2.1 0
    have d4 : W2.cell? ⟨w0.heap.size + 1, 4, none⟩ = some (.slice (some ⟨lb, lo, none⟩) 1 lc) := blk_cell HK.out.2.2.2 4
    refine wp_region_rv 8 GK (kindW [(5, (fun v => v = .string C), (fun _ _ => True))]) (by kernel_rfl) (by kernel_rfl) (kb_trans _) (kb_refl _) (kb_start _ _) (kindW_mono _ (by intro p hp; simp only [List.mem_cons, List.not_mem_nil, or_false] at hp; (subst hp; exact lasts_true))) ?_
    simp only [List.take_succ_cons, List.take_zero, List.drop_succ_cons, List.drop_zero]
    iterate 5 (refine rv_det (by kernel_rfl) rfl (by intro w hG hH; have hc0 := KB.cell hG (fun x => x) (e4); have hc1 := KB.cell hG (fun x => x) (d4); have hc2 := KB.cell hG (fun x => x) (m0); go_simp; first | done | with_reducible rfl) ?_; simp only [Act.put, List.setIfInBounds_toArray, List.set_cons_zero, List.set_cons_succ])
    refine rv_rel (by kernel_rfl) rfl ⟨_, rfl⟩ (by
      intro w hG hH
      refine opVal_call (by go_simp; first | done | exact ⟨⟨rfl, rfl⟩, rfl⟩) ?_
      refine (WH.out _ hG).mono ?_
      rintro e w' ⟨rfl, hq⟩
      exact ⟨_, rfl, rfl, by first | (obtain ⟨nq, rfl⟩ := hq; exact (KB.refl _ _).drewN _) | (subst hq; exact KB.refl _ _) | exact hq, trivial⟩) ?_
    rintro v rfl
    simp only [Act.put, List.setIfInBounds_toArray, List.set_cons_zero, List.set_cons_succ]
    iterate 2 (refine rv_det (by kernel_rfl) rfl (by intro w hG hH; go_simp; first | done | with_reducible rfl) ?_; simp only [Act.put, List.setIfInBounds_toArray, List.set_cons_zero, List.set_cons_succ])
    refine rv_nil (fun w hG hH => ?_)
    have K := Lib.hid (HK.out.1.trans hG)
    clear hG hH d4 e4 m0
    go_wp2_with fail
    refine (BK.out _).mono ?_
    rintro e w5 ⟨rfl, rfl⟩
    go_wp2_with fail
    go_ret
    exact HO.out _ Z K.out HE.out
  · -- 22
    obtain ⟨hM1, q, hq, hxk, hz, hc⟩ := H1.out (by omega)
    have hE : R = [blB inn ++ (⟨#[112, 114, 105, 110, 116, 40]⟩ ++ exK ts ⟨22, at_, m, s, l⟩ 0 ++ ⟨#[41, 59]⟩)] := HR.out
    rw [hxk] at hE
    obtain rfl : M = 1 := by rw [HM.out]; exact hM1
    obtain ⟨lb, lo, rfl, hfirst⟩ := HI.out 0 (by rw [HM.out]; omega)
    clear hfirst
    have m0 := HI.out 0 (by rw [HM.out]; omega)
    obtain ⟨lb2, lo2, ee, m0⟩ := m0
    simp only [Option.some.injEq, Addr.mk.injEq, and_true] at ee
    obtain ⟨rfl, rfl⟩ := ee
    rw [hq] at m0
    have m0 := HK.out.2.1.cell (p := ⟨lb, lo + 0, none⟩) (fun x => x) m0
    rw [Nat.add_zero] at m0
    have WH := Lib.hid (fun (W : World) (hk : KB F0 W2 W) => hc W (HK.out.2.1.trans hk))
    generalize Ex ts q 1 = C at hz hE WH hc
    obtain ⟨A, hA⟩ : ∃ Z_ : ByteArray, ⟨#[112, 114, 105, 110, 116, 40]⟩ ++ C = Z_ := ⟨_, rfl⟩
    have sA : A.size = 6 + C.size := by rw [← hA, ByteArray.size_append]; rfl
    have zA : ¬ (9223372036854775807 < 6 + C.size) := by omega
    obtain ⟨B, hB⟩ : ∃ Z_ : ByteArray, A ++ ⟨#[41]⟩ = Z_ := ⟨_, rfl⟩
    have sB : B.size = A.size + 1 := by rw [← hB, ByteArray.size_append]; rfl
    have zB : ¬ (9223372036854775807 < A.size + 1) := by omega
    generalize blB inn = BL at hbz BK hE
    obtain ⟨Y, hY⟩ : ∃ Z_ : ByteArray, BL ++ B = Z_ := ⟨_, rfl⟩
    have sY : Y.size = BL.size + B.size := by rw [← hY, ByteArray.size_append]
    have zY : ¬ (9223372036854775807 < BL.size + B.size) := by omega
    obtain ⟨Z, hZ⟩ : ∃ Z_ : ByteArray, Y ++ ⟨#[59]⟩ = Z_ := ⟨_, rfl⟩
    have zZ : ¬ (9223372036854775807 < Y.size + 1) := by omega
    have hE : R = [Z] := by rw [hE, ← hZ, ← hY, ← hB, ← hA]; simp only [ByteArray.append_assoc]; rfl
    have HE := Lib.hid hE
    unfold TxtCall at WH
    clear hE sY hbz hz hc hxk hq hM1 sA sB
    rw [show ((22 : Nat) : Int) = 22 from rfl] at c0 HW
    clear hW1 hW2
    go_enter Tryz.func56, Tryz.ntmps56
    go_wp2_with fail
    rw [← HW.out.1, ← HW.out.2]
    clear c0 c1 c2 c3 c4
    have e4 : W2.cell? ⟨w0.heap.size, 0, none⟩ = some (.slice (some ⟨b, off, none⟩) N cap) := blk_cell HK.out.2.2.1 0
    have d4 : W2.cell? ⟨w0.heap.size + 1, 4, none⟩ = some (.slice (some ⟨lb, lo, none⟩) 1 lc) := blk_cell HK.out.2.2.2 4
    refine wp_region_rv 9 GK (kindW [(5, (fun v => v = .string C), (fun _ _ => True))]) (by kernel_rfl) (by kernel_rfl) (kb_trans _) (kb_refl _) (kb_start _ _) (kindW_mono _ (by intro p hp; simp only [List.mem_cons, List.not_mem_nil, or_false] at hp; (subst hp; exact lasts_true))) ?_
    simp only [List.take_succ_cons, List.take_zero, List.drop_succ_cons, List.drop_zero]
    iterate 5 (refine rv_det (by kernel_rfl) rfl (by intro w hG hH; have hc0 := KB.cell hG (fun x => x) (e4); have hc1 := KB.cell hG (fun x => x) (d4); have hc2 := KB.cell hG (fun x => x) (m0); go_simp; first | done | with_reducible rfl) ?_; simp only [Act.put, List.setIfInBounds_toArray, List.set_cons_zero, List.set_cons_succ])
    refine rv_rel (by kernel_rfl) rfl ⟨_, rfl⟩ (by
      intro w hG hH
      refine opVal_call (by go_simp; first | done | exact ⟨⟨rfl, rfl⟩, rfl⟩) ?_
      refine (WH.out _ hG).mono ?_
      rintro e w' ⟨rfl, hq⟩
      exact ⟨_, rfl, rfl, by first | (obtain ⟨nq, rfl⟩ := hq; exact (KB.refl _ _).drewN _) | (subst hq; exact KB.refl _ _) | exact hq, trivial⟩) ?_
    rintro v rfl
    simp only [Act.put, List.setIfInBounds_toArray, List.set_cons_zero, List.set_cons_succ]
    iterate 3 (refine rv_det (by kernel_rfl) rfl (by intro w hG hH; go_simp; first | done | with_reducible rfl) ?_; simp only [Act.put, List.setIfInBounds_toArray, List.set_cons_zero, List.set_cons_succ])
    refine rv_nil (fun w hG hH => ?_)
    have K := Lib.hid (HK.out.1.trans hG)
    clear hG hH d4 e4 m0
    go_wp2_with fail
    refine (BK.out _).mono ?_
    rintro e w5 ⟨rfl, rfl⟩
    go_wp2_with fail
    go_ret
    exact HO.out _ Z K.out HE.out
  · -- 23
    obtain ⟨hM1, q, hq, hxk, hz, hc⟩ := H2.out rfl
    have hE : R = [blB inn ++ (exK ts ⟨23, at_, m, s, l⟩ 0 ++ ⟨#[59]⟩)] := HR.out
    rw [hxk] at hE
    obtain rfl : M = 1 := by rw [HM.out]; exact hM1
    obtain ⟨lb, lo, rfl, hfirst⟩ := HI.out 0 (by rw [HM.out]; omega)
    clear hfirst
    have m0 := HI.out 0 (by rw [HM.out]; omega)
    obtain ⟨lb2, lo2, ee, m0⟩ := m0
    simp only [Option.some.injEq, Addr.mk.injEq, and_true] at ee
    obtain ⟨rfl, rfl⟩ := ee
    rw [hq] at m0
    have m0 := HK.out.2.1.cell (p := ⟨lb, lo + 0, none⟩) (fun x => x) m0
    rw [Nat.add_zero] at m0
    have WH := Lib.hid (fun (W : World) (hk : KB F0 W2 W) => hc W (HK.out.2.1.trans hk))
    generalize Ex ts q 1 = C at hz hE WH hc
    generalize blB inn = BL at hbz BK hE
    obtain ⟨Y, hY⟩ : ∃ Z_ : ByteArray, BL ++ C = Z_ := ⟨_, rfl⟩
    have sY : Y.size = BL.size + C.size := by rw [← hY, ByteArray.size_append]
    have zY : ¬ (9223372036854775807 < BL.size + C.size) := by omega
    obtain ⟨Z, hZ⟩ : ∃ Z_ : ByteArray, Y ++ ⟨#[59]⟩ = Z_ := ⟨_, rfl⟩
    have zZ : ¬ (9223372036854775807 < Y.size + 1) := by omega
    have hE : R = [Z] := by rw [hE, ← hZ, ← hY]; simp only [ByteArray.append_assoc]
    have HE := Lib.hid hE
    unfold TxtCall at WH
    clear hE sY hbz hz hc hxk hq hM1 
    rw [show ((23 : Nat) : Int) = 23 from rfl] at c0 HW
    clear hW1 hW2
    go_enter Tryz.func56, Tryz.ntmps56
    go_wp2_with fail
    rw [← HW.out.1, ← HW.out.2]
    clear c0 c1 c2 c3 c4
    have e4 : W2.cell? ⟨w0.heap.size, 0, none⟩ = some (.slice (some ⟨b, off, none⟩) N cap) := blk_cell HK.out.2.2.1 0
    have d4 : W2.cell? ⟨w0.heap.size + 1, 4, none⟩ = some (.slice (some ⟨lb, lo, none⟩) 1 lc) := blk_cell HK.out.2.2.2 4
    refine wp_region_rv 7 GK (kindW [(5, (fun v => v = .string C), (fun _ _ => True))]) (by kernel_rfl) (by kernel_rfl) (kb_trans _) (kb_refl _) (kb_start _ _) (kindW_mono _ (by intro p hp; simp only [List.mem_cons, List.not_mem_nil, or_false] at hp; (subst hp; exact lasts_true))) ?_
    simp only [List.take_succ_cons, List.take_zero, List.drop_succ_cons, List.drop_zero]
    iterate 5 (refine rv_det (by kernel_rfl) rfl (by intro w hG hH; have hc0 := KB.cell hG (fun x => x) (e4); have hc1 := KB.cell hG (fun x => x) (d4); have hc2 := KB.cell hG (fun x => x) (m0); go_simp; first | done | with_reducible rfl) ?_; simp only [Act.put, List.setIfInBounds_toArray, List.set_cons_zero, List.set_cons_succ])
    refine rv_rel (by kernel_rfl) rfl ⟨_, rfl⟩ (by
      intro w hG hH
      refine opVal_call (by go_simp; first | done | exact ⟨⟨rfl, rfl⟩, rfl⟩) ?_
      refine (WH.out _ hG).mono ?_
      rintro e w' ⟨rfl, hq⟩
      exact ⟨_, rfl, rfl, by first | (obtain ⟨nq, rfl⟩ := hq; exact (KB.refl _ _).drewN _) | (subst hq; exact KB.refl _ _) | exact hq, trivial⟩) ?_
    rintro v rfl
    simp only [Act.put, List.setIfInBounds_toArray, List.set_cons_zero, List.set_cons_succ]
    refine rv_det (by kernel_rfl) rfl (by intro w hG hH; go_simp; first | done | with_reducible rfl) ?_
    simp only [Act.put, List.setIfInBounds_toArray, List.set_cons_zero, List.set_cons_succ]
    refine rv_nil (fun w hG hH => ?_)
    have K := Lib.hid (HK.out.1.trans hG)
    clear hG hH d4 e4 m0
    go_wp2_with fail
    refine (BK.out _).mono ?_
    rintro e w5 ⟨rfl, rfl⟩
    go_wp2_with fail
    go_ret
    exact HO.out _ Z K.out HE.out
end Go.Proofs.YtoophdcagpfmpaaGreatDoor

/- print: a statement's lines. -/
import Derived.Test.YtoophdcagpfmpaaGreatDoorPrM
namespace Go.Proofs.YtoophdcagpfmpaaGreatDoor
open Go.RowKit

theorem stmt_cases {k : Nat} (h : isStmtB k = true ∨ k = 2 ∨ k = 4) : k = 2 ∨ k = 4 ∨ k = 13 ∨ k = 14 ∨ k = 15 ∨ k = 16 ∨ k = 17 ∨ k = 18 ∨ k = 19 ∨ k = 20 ∨ k = 21 ∨ k = 22 ∨ k = 23 := by
  rcases h with h | h | h
  · unfold isStmtB at h
    simp only [Bool.or_eq_true, Bool.and_eq_true, decide_eq_true_eq] at h
    omega
  · exact Or.inl h
  · exact Or.inr (Or.inl h)
theorem let_txt {ts : List Nd} {x : Nd} {T E : ByteArray} : (x.n = 1 → tyK ts x 0 = T → letB ts x = (⟨#[108, 101, 116, 32]⟩ ++ x.s) ++ (⟨#[58, 32]⟩ ++ T)) ∧ (x.n = 2 → exK ts x (x.l.length - 1) = E → letB ts x = (⟨#[108, 101, 116, 32]⟩ ++ x.s) ++ (⟨#[32, 61, 32]⟩ ++ E)) ∧
    (x.n = 3 → tyK ts x 0 = T → exK ts x (x.l.length - 1) = E → letB ts x = ((⟨#[108, 101, 116, 32]⟩ ++ x.s) ++ (⟨#[58, 32]⟩ ++ T)) ++ (⟨#[32, 61, 32]⟩ ++ E)) := by
  refine ⟨fun e h => ?_, fun e h => ?_, fun e h h2 => ?_⟩
  · unfold letB letA; rw [if_neg (by omega), if_pos (by omega), h]
  · unfold letB letA; rw [if_pos (by omega), if_neg (by omega), h]
  · unfold letB letA; rw [if_pos (by omega), if_pos (by omega), h, h2]
set_option maxRecDepth 100000 in
set_option maxHeartbeats 32000000 in
theorem stmt_step (ts : List Nd) (h : TOk ts) (hok : ∀ x ∈ ts, NdOk x) (a : Option Addr) (cap : Nat) (wb : World) (X n : Nat) (hX : wb.heap.size ≤ X) (hts : NodesAt wb a ts) (hT : PT wb) (hi : n < ts.length)
    (ihB : ∀ q, n < q → q < ts.length → BlockAt ts a cap wb X q) (hBn : BlockAt ts a cap wb X n) (hCn : ChoiceAt ts a cap wb X n) : StmtAt ts a cap wb X n := by
  intro w v out inn hks hp hb hin hol
  obtain ⟨w0, rfl⟩ : ∃ w0, w0 = w := ⟨_, rfl⟩
  have hlen := h.len
  obtain ⟨R, hR⟩ : ∃ R, R = St5 ts n inn (blB inn) := ⟨_, rfl⟩
  rw [← hR]
  have HRn := Lib.hid hR
  rw [St_eq h.down hi] at hR
  have htx := h.txt hi
  have hez : ∀ q, q < ts.length → (Ex ts q 1).size ≤ 4000000 := fun q hq => by
    have h1 := Ex_size h hok 1 hq
    have h2 := wt1_pos h.good hq
    omega
  have htz : ∀ q, q < ts.length → (Ty ts q).size ≤ 4000000 := fun q hq => by
    have h1 := Ty_size h hq
    have h2 := wt1_pos h.good hq
    omega
  have hq1 : inn ≤ 20000 := by omega
  have hq2 : out.length ≤ 1000000 := by omega
  have hwk : ∀ i, i < (ts.getD n nd0).l.length → wt1 ts (kid (ts.getD n nd0) i) + 1 ≤ wt1 ts n := fun i hi2 => by
    have h1 := wK_sum h.good hi (i + 1)
    have h2 : wK ts (ts.getD n nd0) i = wt1 ts (kid (ts.getD n nd0) i) := wK_at hi2
    have h3 : sumK (wK ts (ts.getD n nd0)) (i + 1) = sumK (wK ts (ts.getD n nd0)) i + wK ts (ts.getD n nd0) i := rfl
    omega
  -- an expression among the children
  have hx_ : ∀ i, i < (ts.getD n nd0).l.length → isExprB (ts.getD (kid (ts.getD n nd0) i) nd0).k = true → ∃ q : Nat, (ts.getD n nd0).l.getD i 0 = (q : Int) ∧ exK ts (ts.getD n nd0) i = Ex ts q 1 ∧ (Ex ts q 1).size ≤ 4000000 ∧ ∀ W, KB F0 wb W → TxtCall 42 #[.slice a ts.length cap, .int .i64 q] W (Ex ts q 1) := fun i hi2 he => by
    have e2 := h.kid hi hi2
    exact ⟨_, e2.2.2, if_pos hi2, hez _ e2.2.1, fun W hk => whole_any ts h hok a cap _ W e2.2.1 (hts.kbF hk) (hT.kb hk) he⟩
  have hy_ : ∀ i, i < (ts.getD n nd0).l.length → isTypeB (ts.getD (kid (ts.getD n nd0) i) nd0).k = true → ∃ q : Nat, (ts.getD n nd0).l.getD i 0 = (q : Int) ∧ tyK ts (ts.getD n nd0) i = Ty ts q ∧ (Ty ts q).size ≤ 4000000 ∧ ∀ W, KB F0 wb W → TxtCall 45 #[.slice a ts.length cap, .int .i64 q] W (Ty ts q) := fun i hi2 he => by
    have e2 := h.kid hi hi2
    exact ⟨_, e2.2.2, if_pos hi2, htz _ e2.2.1, fun W hk => kind_any5 ts h a cap _ W e2.2.1 (hts.kbF hk) he⟩
  have hb_ : ∀ i, i < (ts.getD n nd0).l.length → (ts.getD (kid (ts.getD n nd0) i) nd0).k = 13 → ∃ q : Nat, (ts.getD n nd0).l.getD i 0 = (q : Int) ∧ (∀ inn P, (if i < (ts.getD n nd0).l.length then St5 ts (kid (ts.getD n nd0) i) inn P else []) = St5 ts q inn P) ∧ (ts.getD q nd0).k = 13 ∧ inn ≤ q ∧ out.length + 2 * wt1 ts q ≤ 1000000 ∧ BlockAt ts a cap wb X q := fun i hi2 he => by
    have e2 := h.kid hi hi2
    have e3 := hwk i hi2
    exact ⟨_, e2.2.2, fun inn P => if_pos hi2, he, by omega, by omega, ihB _ e2.1 e2.2.1⟩
  have H1 := Lib.hid (fun (e : (ts.getD n nd0).k = 21 ∨ (ts.getD n nd0).k = 22) => (show _ ∧ _ from ⟨(h.ex1 hi (by omega)).1, hx_ 0 (by have := (h.ex1 hi (by omega)).1; omega) (h.ex1 hi (by omega)).2⟩))
  have H2 := Lib.hid (fun (e : (ts.getD n nd0).k = 23) => (show _ ∧ _ from ⟨(h.expr hi e).1, hx_ 0 (by have := (h.expr hi e).1; omega) (h.expr hi e).2⟩))
  have H3 := Lib.hid (fun (e : (ts.getD n nd0).k = 15) => (show _ ∧ _ ∧ _ from ⟨(h.ex2 hi (by omega)).1, hx_ 0 (by have := (h.ex2 hi (by omega)).1; omega) (h.ex2 hi (by omega)).2.1, hx_ 1 (by have := (h.ex2 hi (by omega)).1; omega) (h.ex2 hi (by omega)).2.2⟩))
  have H4 := Lib.hid (fun (e : (ts.getD n nd0).k = 17) => (show _ ∧ _ ∧ _ from ⟨(h.while_ hi e).1, hx_ 0 (by have := (h.while_ hi e).1; omega) (h.while_ hi e).2.1, hb_ 1 (by have := (h.while_ hi e).1; omega) (h.while_ hi e).2.2⟩))
  have H5 := Lib.hid (fun (e : (ts.getD n nd0).k = 18) => (show _ ∧ _ from ⟨(h.loop hi e).1, hb_ 0 (by have := (h.loop hi e).1; omega) (h.loop hi e).2⟩))
  have H6 := Lib.hid (fun (e : (ts.getD n nd0).k = 14) => (show ((ts.getD n nd0).n = 1 ∧ (ts.getD n nd0).l.length = 1 ∧ _) ∨ ((ts.getD n nd0).n = 2 ∧ (ts.getD n nd0).l.length = 1 ∧ _) ∨ ((ts.getD n nd0).n = 3 ∧ (ts.getD n nd0).l.length = 2 ∧ _ ∧ _) from by
    rcases h.let_ hi e with ⟨e1, e2, e3⟩ | ⟨e1, e2, e3⟩ | ⟨e1, e2, e3, e4⟩
    · exact Or.inl ⟨e1, e2, hy_ 0 (by omega) e3⟩
    · exact Or.inr (Or.inl ⟨e1, e2, hx_ 0 (by omega) e3⟩)
    · exact Or.inr (Or.inr ⟨e1, e2, hy_ 0 (by omega) e3, hx_ 1 (by omega) e4⟩)))
  have H7 := Lib.hid (fun (e : (ts.getD n nd0).k = 4) (W : World) (hk : KB F0 w0 W) => fn_step ts h a cap wb X n hX hts hi ihB e W v out inn (hp.kb hk) (hb.trans hk) hin hol)
  have H8 := Lib.hid (fun (e : (ts.getD n nd0).k = 13) (W : World) (hk : KB F0 w0 W) => hBn W v out out inn (blB inn) ByteArray.empty 95 e (hp.kb hk) (hb.trans hk) hin hol (by decide) (begins_line (hp.kb hk) hq1 hq2) enters_line)
  have H9 := Lib.hid (fun (e : (ts.getD n nd0).k = 16) (W : World) (hk : KB F0 w0 W) => hCn W v out out inn (blB inn) 95 e (hp.kb hk) (hb.trans hk) hin hol (begins_line (hp.kb hk) hq1 hq2) enters_line)
  have hst : (ts.getD n nd0).k = 2 → (jnK ⟨#[44, 32]⟩ (tdK ts (ts.getD n nd0)) (ts.getD n nd0).l.length).size ≤ 4000000 ∧ (ts.getD n nd0).l.length ≤ 8 ∧ ∀ i, i < (ts.getD n nd0).l.length → ∀ W, KB F0 wb W → W.cell? ⟨X, 0, none⟩ = some (.slice a ts.length cap) → TxtCall 97 #[.pointer (some ⟨X, 0, none⟩), .int .i64 ((ts.getD n nd0).l.getD i 0)] W (tdK ts (ts.getD n nd0) i) := fun e => by
    have e1 := h.struct hi e
    refine ⟨?_, e1.1, fun i hi2 W hk hc => ?_⟩
    · have h1 := jnK_size (sep := ⟨#[44, 32]⟩) (g := tdK ts (ts.getD n nd0)) (C := 200) (w := wK ts (ts.getD n nd0)) (k := (ts.getD n nd0).l.length) (fun i hi2 => by
        have e2 := h.kid hi hi2
        have h6 := typed_size h e2.2.1
        rw [wK_at hi2, show tdK ts (ts.getD n nd0) i = typedB ts (kid (ts.getD n nd0) i) from if_pos hi2]
        have : (⟨#[44, 32]⟩ : ByteArray).size = 2 := rfl
        omega)
      have h2 := sum_le h hi (ts.getD n nd0).l.length
      omega
    · have e2 := h.kid hi hi2
      obtain ⟨b, off, rfl, -⟩ := hts n hi
      rw [e2.2.2, show tdK ts (ts.getD n nd0) i = typedB ts (kid (ts.getD n nd0) i) from if_pos hi2]
      exact typed_any ts h b off cap X _ W (hts.kbF hk) hc e2.2.1 (Or.inl (e1.2 i hi2))
  have H10 := Lib.hid hst
  have LN := Lib.hid (fun (s : ByteArray) (hs : s.size ≤ 10000000000) (W : World) (hk : KB F0 w0 W) => line_any X _ v out inn s W (hp.kb hk) hq1 hs (by omega))
  have BG := Lib.hid (fun (W : World) (hk : KB F0 w0 W) => begins_line (hp.kb hk) hq1 hq2)
  have HQ := Lib.hid (And.intro hq1 hq2)
  obtain ⟨b, off, rfl, hx⟩ := hts n hi
  have hks := stmt_cases hks
  clear hst hx_ hy_ hb_ hwk hez htz ihB hBn hCn hok hts hT h
  generalize ts.getD n nd0 = x at hx hks hR htx H1 H2 H3 H4 H5 H6 H7 H8 H9 H10
  obtain ⟨la, lc, hl4, hints, hlc, hlm⟩ := hx.l
  unfold maxLen at hlm
  obtain ⟨k, at_, m, s, l⟩ := x
  simp only at hks hR htx H1 H2 H3 H4 H5 H6 H7 H8 H9 H10 hl4 hints hlc
  obtain ⟨M, hM⟩ : ∃ M, M = l.length := ⟨_, rfl⟩
  rw [← hM] at hl4 hlc
  obtain ⟨N, hN⟩ : ∃ N, N = ts.length := ⟨_, rfl⟩
  rw [← hN] at hp H1 H2 H3 H4 H6 H7 H8 H9 H10 LN BG hi ⊢
  obtain ⟨W1, hW1⟩ : ∃ W1, W1 = w0.alloc (.cells #[.int .u8 (k : Nat), .int .i64 at_, .int .i64 m, .string s, .slice la M lc] 44) := ⟨_, rfl⟩
  have k1 : KB F0 w0 W1 := by rw [hW1]; exact (KB.refl _ _).alloc _
  have hbN : W1.heap[w0.heap.size]? = some (.cells #[.int .u8 (k : Nat), .int .i64 at_, .int .i64 m, .string s, .slice la M lc] 44 (0, 0)) := by rw [hW1]; exact alloc_new _ _
  have c0 : w0.cell? ⟨b, off + n * 5, none⟩ = some (.int .u8 (k : Nat)) := hb.cell (p := ⟨b, off + n * 5, none⟩) (fun x => x) hx.k
  have c1 : w0.cell? ⟨b, off + n * 5 + 1, none⟩ = some (.int .i64 at_) := hb.cell (p := ⟨b, off + n * 5 + 1, none⟩) (fun x => x) hx.at_
  have c2 : w0.cell? ⟨b, off + n * 5 + 2, none⟩ = some (.int .i64 m) := hb.cell (p := ⟨b, off + n * 5 + 2, none⟩) (fun x => x) hx.n
  have c3 : w0.cell? ⟨b, off + n * 5 + 3, none⟩ = some (.string s) := hb.cell (p := ⟨b, off + n * 5 + 3, none⟩) (fun x => x) hx.s
  have c4 := hb.cell (p := ⟨b, off + n * 5 + 4, none⟩) (fun x => x) hl4
  have p0 : w0.cell? ⟨X, 0, none⟩ = some (.slice (some ⟨b, off, none⟩) N cap) := blk_cell hp.blk 0
  have hbk := hb.trans k1
  have HI := Lib.hid (fun i (hi2 : i < M) => hints i (by rw [← hM]; exact hi2))
  have HM := Lib.hid hM
  have p1 := k1.cell (p := ⟨X, 0, none⟩) (fun x => x) p0
  have P1 := Lib.hid p1
  have HK := Lib.hid (And.intro k1 (And.intro hbk hbN))
  have HW := Lib.hid hW1
  have HX := Lib.hid htx
  have HN := Lib.hid hN
  have i1 : (n : Int) < (N : Int) := by omega
  have hfin : ∀ (W : World) (L : List ByteArray), KB F0 w0 W → ∀ (e : Ending) (w' : World), PgEnd W X (.slice (some ⟨b, off, none⟩) N cap) v (out ++ L) inn e w' → R = L → PgEnd w0 X (.slice (some ⟨b, off, none⟩) N cap) v (out ++ R) inn e w' := fun W L hk e w' ⟨h1, v', h2, h3⟩ hl => ⟨h1, v', by rw [hl]; exact h2, (PgTo.of hk).trans h3⟩
  have HF := Lib.hid hfin
  have HPG := Lib.hid (hp.kb k1)
  have HR := Lib.hid hR
  clear hx hl4 hints hb hp hX hin hol hM hN k1 hbN hbk htx hfin hR hlc hq1 hq2 hlen p1 hi
  rcases hks with rfl | rfl | rfl | rfl | rfl | rfl | rfl | rfl | rfl | rfl | rfl | rfl | rfl
  · -- 2
    obtain ⟨hz, hM8, hc⟩ := H10.out rfl
    have hE : R = [blB inn ++ (⟨#[115, 116, 114, 117, 99, 116, 32]⟩ ++ s ++ ⟨#[32, 123, 32]⟩ ++ jnK ⟨#[44, 32]⟩ (tdK ts ⟨2, at_, m, s, l⟩) l.length ++ ⟨#[32, 125]⟩)] := HR.out
    rw [← HM.out] at hE hz hM8 hc
    have TB := Lib.hid (fun (W : World) (hk : KB F0 W1 W) => told_bound (.slice (some ⟨b, off, none⟩) N cap) la M lc (fun i => l.getD i 0) ⟨#[44, 32]⟩ 97 (.pointer (some ⟨X, 0, none⟩)) (tdK ts ⟨2, at_, m, s, l⟩) W (by omega)
      (fun i hi2 => by
        obtain ⟨lb, lo, e, hc⟩ := HI.out i hi2
        exact ⟨lb, lo, e, (HK.out.2.1.trans hk).cell (p := ⟨lb, lo + i, none⟩) (fun x => x) hc⟩)
      (fun i hi2 W2 hk2 => hc i hi2 W2 ((HK.out.2.1.trans hk).trans hk2) ((hk.trans hk2).cell (p := ⟨X, 0, none⟩) (fun x => x) P1.out)) (by omega) (enters Tryz.func97 (by kernel_rfl) (by kernel_rfl)))
    generalize jnK ⟨#[44, 32]⟩ (tdK ts ⟨2, at_, m, s, l⟩) M = C at hz hE TB
    have hss := HX.out.2.1
    obtain ⟨A, hA⟩ : ∃ Z_ : ByteArray, ⟨#[115, 116, 114, 117, 99, 116, 32]⟩ ++ s = Z_ := ⟨_, rfl⟩
    have sA : A.size = 7 + s.size := by rw [← hA, ByteArray.size_append]; rfl
    have zA : ¬ (9223372036854775807 < 7 + s.size) := by omega
    obtain ⟨B, hB⟩ : ∃ Z_ : ByteArray, A ++ ⟨#[32, 123, 32]⟩ = Z_ := ⟨_, rfl⟩
    have sB : B.size = A.size + 3 := by rw [← hB, ByteArray.size_append]; rfl
    have zB : ¬ (9223372036854775807 < A.size + 3) := by omega
    obtain ⟨D, hD⟩ : ∃ Z_ : ByteArray, B ++ C = Z_ := ⟨_, rfl⟩
    have sD : D.size = B.size + C.size := by rw [← hD, ByteArray.size_append]
    have zD : ¬ (9223372036854775807 < B.size + C.size) := by omega
    obtain ⟨E, hE2⟩ : ∃ Z_ : ByteArray, D ++ ⟨#[32, 125]⟩ = Z_ := ⟨_, rfl⟩
    have sE : E.size = D.size + 2 := by rw [← hE2, ByteArray.size_append]; rfl
    have zE : ¬ (9223372036854775807 < D.size + 2) := by omega
    rw [hA, hB, hD, hE2] at hE
    have hBz : E.size ≤ 10000000000 := by omega
    have HE := Lib.hid (And.intro hE hBz)
    clear hE hBz sA sB sD sE hz hc hM8 hss
    rw [show ((2 : Nat) : Int) = 2 from rfl] at c0 hW1
    go_enter Tryz.func68, Tryz.ntmps68
    go_wp2_with fail
    rw [← hW1]
    clear hW1 c0 c1 c2 c3 c4 p0
    have d3 : W1.cell? ⟨w0.heap.size, 3, none⟩ = some (.string s) := blk_cell HK.out.2.2 3
    have d4 : W1.cell? ⟨w0.heap.size, 4, none⟩ = some (.slice la M lc) := blk_cell HK.out.2.2 4
    have p1 := P1.out
    refine wp_region_rv 16 GK (kindW [(13, (fun v => v = .string C), (fun _ _ => True))]) (by kernel_rfl) (by kernel_rfl) (kb_trans _) (kb_refl _) (kb_start _ _) (kindW_mono _ (by intro p hp; simp only [List.mem_cons, List.not_mem_nil, or_false] at hp; (subst hp; exact lasts_true))) ?_
    simp only [List.take_succ_cons, List.take_zero, List.drop_succ_cons, List.drop_zero]
    iterate 13 (refine rv_det (by kernel_rfl) rfl (by intro w hG hH; have hc0 := KB.cell hG (fun x => x) (d3); have hc1 := KB.cell hG (fun x => x) (d4); have hc2 := KB.cell hG (fun x => x) (p1); go_simp; first | done | with_reducible rfl) ?_; simp only [Act.put, List.setIfInBounds_toArray, List.set_cons_zero, List.set_cons_succ])
    refine rv_rel (by kernel_rfl) rfl ⟨_, rfl⟩ (by
      intro w hG hH
      refine opVal_call (by go_simp; first | done | exact ⟨⟨rfl, rfl⟩, rfl⟩) ?_
      refine (TB.out _ hG).mono ?_
      rintro e w' ⟨rfl, hq⟩
      exact ⟨_, rfl, rfl, by first | (obtain ⟨nq, rfl⟩ := hq; exact (KB.refl _ _).drewN _) | (subst hq; exact KB.refl _ _) | exact hq, trivial⟩) ?_
    rintro v rfl
    simp only [Act.put, List.setIfInBounds_toArray, List.set_cons_zero, List.set_cons_succ]
    iterate 2 (refine rv_det (by kernel_rfl) rfl (by intro w hG hH; go_simp; first | done | with_reducible rfl) ?_; simp only [Act.put, List.setIfInBounds_toArray, List.set_cons_zero, List.set_cons_succ])
    refine rv_nil (fun w hG hH => ?_)
    have K := Lib.hid (HK.out.1.trans hG)
    clear hG hH d3 d4 p1
    go_wp2_with fail
    refine (LN.out E HE.out.2 _ K.out).mono ?_
    rintro e w5 hq5
    have H5 := Lib.hid hq5
    obtain ⟨rfl, v5, -, -⟩ := hq5
    go_wp2_with fail
    go_end0
    exact HF.out _ _ K.out _ _ H5.out HE.out.1
  · -- 4
    have hc := H7.out rfl
    have HC := Lib.hid (hc W1 HK.out.1)
    clear hc
    rw [show ((4 : Nat) : Int) = 4 from rfl] at c0 hW1
    go_enter Tryz.func68, Tryz.ntmps68
    go_wp2_with fail
    rw [← hW1]
    clear hW1 c0 c1 c2 c3 c4 p0
    refine HC.out.mono ?_
    rintro e w5 hq5
    have H5 := Lib.hid hq5
    obtain ⟨rfl, v5, -, -⟩ := hq5
    go_wp2_with fail
    go_end0
    exact HF.out _ _ HK.out.1 _ _ H5.out HRn.out
  · -- 13
    have hc := H8.out rfl
    have hc := hc W1 HK.out.1
    rw [ByteArray.append_empty] at hc
    have HC := Lib.hid hc
    clear hc
    rw [show ((13 : Nat) : Int) = 13 from rfl] at c0 hW1
    go_enter Tryz.func68, Tryz.ntmps68
    go_wp2_with fail
    rw [← hW1]
    clear hW1 c0 c1 c2 c3 c4 p0
    refine HC.out.mono ?_
    rintro e w5 hq5
    have H5 := Lib.hid hq5
    obtain ⟨rfl, v5, -, -⟩ := hq5
    go_wp2_with fail
    go_end0
    exact HF.out _ _ HK.out.1 _ _ H5.out HRn.out
  · -- 14
    have hE : R = [blB inn ++ (letB ts ⟨14, at_, m, s, l⟩ ++ ⟨#[59]⟩)] := HR.out
    have hss := HX.out.2.1
    rcases H6.out rfl with ⟨rfl, hM1, q, hq, hyk, hz, hc⟩ | ⟨rfl, hM1, q, hq, hxk, hz, hc⟩ | ⟨rfl, hM1, ⟨q, hq, hyk, hz, hc⟩, q2, hq2, hxk, hz2, hc2⟩
    · obtain rfl : M = 1 := by rw [HM.out]; exact hM1
      obtain ⟨lb, lo, rfl, hfirst⟩ := HI.out 0 (by rw [HM.out]; omega)
      clear hfirst
      have m0 := HI.out 0 (by rw [HM.out]; omega)
      obtain ⟨lb2, lo2, ee, m0⟩ := m0
      simp only [Option.some.injEq, Addr.mk.injEq, and_true] at ee
      obtain ⟨rfl, rfl⟩ := ee
      rw [hq] at m0
      have m0 := HK.out.2.1.cell (p := ⟨lb, lo + 0, none⟩) (fun x => x) m0
      rw [Nat.add_zero] at m0
      rw [(let_txt (E := ByteArray.empty)).1 rfl hyk] at hE
      have hlet := let_1 X (.slice (some ⟨b, off, none⟩) N cap) v out inn at_ s lb lo lc (Ty ts q) q W1 HPG.out HQ.out.1 HQ.out.2 hss (by omega) (fun W hk => hc W (HK.out.2.1.trans hk)) m0
      have HC := Lib.hid hlet
      have HE := Lib.hid hE
      clear hE hlet hz hc hq hM1 hss hyk
      rw [show ((14 : Nat) : Int) = 14 from rfl] at c0 hW1
      go_enter Tryz.func68, Tryz.ntmps68
      go_wp2_with fail
      rw [← hW1]
      clear hW1 c0 c1 c2 c3 c4 p0
      refine HC.out.mono ?_
      rintro e w5 hq5
      have H5 := Lib.hid hq5
      obtain ⟨rfl, v5, -, -⟩ := hq5
      go_wp2_with fail
      go_end0
      exact HF.out _ _ HK.out.1 _ _ H5.out HE.out
    · obtain rfl : M = 1 := by rw [HM.out]; exact hM1
      obtain ⟨lb, lo, rfl, hfirst⟩ := HI.out 0 (by rw [HM.out]; omega)
      clear hfirst
      have m0 := HI.out 0 (by rw [HM.out]; omega)
      obtain ⟨lb2, lo2, ee, m0⟩ := m0
      simp only [Option.some.injEq, Addr.mk.injEq, and_true] at ee
      obtain ⟨rfl, rfl⟩ := ee
      rw [hq] at m0
      have m0 := HK.out.2.1.cell (p := ⟨lb, lo + 0, none⟩) (fun x => x) m0
      rw [Nat.add_zero] at m0
      have hxk2 : exK ts ⟨14, at_, 2, s, l⟩ (l.length - 1) = Ex ts q 1 := by rw [hM1]; exact hxk
      rw [(let_txt (T := ByteArray.empty)).2.1 rfl hxk2] at hE
      have hlet := let_2 X (.slice (some ⟨b, off, none⟩) N cap) v out inn at_ s lb lo lc (Ex ts q 1) q W1 HPG.out HQ.out.1 HQ.out.2 hss (by omega) (fun W hk => hc W (HK.out.2.1.trans hk)) m0
      have HC := Lib.hid hlet
      have HE := Lib.hid hE
      clear hE hlet hz hc hq hM1 hss hxk hxk2
      rw [show ((14 : Nat) : Int) = 14 from rfl] at c0 hW1
      go_enter Tryz.func68, Tryz.ntmps68
      go_wp2_with fail
      rw [← hW1]
      clear hW1 c0 c1 c2 c3 c4 p0
      refine HC.out.mono ?_
      rintro e w5 hq5
      have H5 := Lib.hid hq5
      obtain ⟨rfl, v5, -, -⟩ := hq5
      go_wp2_with fail
      go_end0
      exact HF.out _ _ HK.out.1 _ _ H5.out HE.out
    · obtain rfl : M = 2 := by rw [HM.out]; exact hM1
      obtain ⟨lb, lo, rfl, hfirst⟩ := HI.out 0 (by rw [HM.out]; omega)
      clear hfirst
      have m0 := HI.out 0 (by rw [HM.out]; omega)
      obtain ⟨lb2, lo2, ee, m0⟩ := m0
      simp only [Option.some.injEq, Addr.mk.injEq, and_true] at ee
      obtain ⟨rfl, rfl⟩ := ee
      rw [hq] at m0
      have m0 := HK.out.2.1.cell (p := ⟨lb, lo + 0, none⟩) (fun x => x) m0
      rw [Nat.add_zero] at m0
      have m1 := HI.out 1 (by rw [HM.out]; omega)
      obtain ⟨lb2, lo2, ee, m1⟩ := m1
      simp only [Option.some.injEq, Addr.mk.injEq, and_true] at ee
      obtain ⟨rfl, rfl⟩ := ee
      rw [hq2] at m1
      have m1 := HK.out.2.1.cell (p := ⟨lb, lo + 1, none⟩) (fun x => x) m1
      have hxk2 : exK ts ⟨14, at_, 3, s, l⟩ (l.length - 1) = Ex ts q2 1 := by rw [hM1]; exact hxk
      rw [let_txt.2.2 rfl hyk hxk2] at hE
      have hlet := let_3 X (.slice (some ⟨b, off, none⟩) N cap) v out inn at_ s lb lo lc (Ty ts q) q (Ex ts q2 1) q2 W1 HPG.out HQ.out.1 HQ.out.2 hss (by omega) (fun W hk => hc W (HK.out.2.1.trans hk)) m0 (by omega) (fun W hk => hc2 W (HK.out.2.1.trans hk)) m1
      have HC := Lib.hid hlet
      have HE := Lib.hid hE
      clear hE hlet hz hc hq hM1 hss hyk hxk hxk2 hc2 hz2 hq2
      rw [show ((14 : Nat) : Int) = 14 from rfl] at c0 hW1
      go_enter Tryz.func68, Tryz.ntmps68
      go_wp2_with fail
      rw [← hW1]
      clear hW1 c0 c1 c2 c3 c4 p0
      refine HC.out.mono ?_
      rintro e w5 hq5
      have H5 := Lib.hid hq5
      obtain ⟨rfl, v5, -, -⟩ := hq5
      go_wp2_with fail
      go_end0
      exact HF.out _ _ HK.out.1 _ _ H5.out HE.out
  · -- 15
    obtain ⟨hM1, ⟨q, hq, hxk, hz, hc⟩, q2, hq2, hxk2, hz2, hc2⟩ := H3.out rfl
    have hE : R = [blB inn ++ (exK ts ⟨15, at_, m, s, l⟩ 0 ++ ⟨#[32, 61, 32]⟩ ++ exK ts ⟨15, at_, m, s, l⟩ 1 ++ ⟨#[59]⟩)] := HR.out
    rw [hxk, hxk2] at hE
    obtain rfl : M = 2 := by rw [HM.out]; exact hM1
    obtain ⟨lb, lo, rfl, hfirst⟩ := HI.out 0 (by rw [HM.out]; omega)
    clear hfirst
    have m0 := HI.out 0 (by rw [HM.out]; omega)
    obtain ⟨lb2, lo2, ee, m0⟩ := m0
    simp only [Option.some.injEq, Addr.mk.injEq, and_true] at ee
    obtain ⟨rfl, rfl⟩ := ee
    rw [hq] at m0
    have m0 := HK.out.2.1.cell (p := ⟨lb, lo + 0, none⟩) (fun x => x) m0
    rw [Nat.add_zero] at m0
    have m1 := HI.out 1 (by rw [HM.out]; omega)
    obtain ⟨lb2, lo2, ee, m1⟩ := m1
    simp only [Option.some.injEq, Addr.mk.injEq, and_true] at ee
    obtain ⟨rfl, rfl⟩ := ee
    rw [hq2] at m1
    have m1 := HK.out.2.1.cell (p := ⟨lb, lo + 1, none⟩) (fun x => x) m1
    have WH := Lib.hid hc
    have WH2 := Lib.hid hc2
    generalize Ex ts q 1 = C at hz hE WH
    generalize Ex ts q2 1 = D at hz2 hE WH2
    obtain ⟨A, hA⟩ : ∃ Z_ : ByteArray, C ++ ⟨#[32, 61, 32]⟩ = Z_ := ⟨_, rfl⟩
    have sA : A.size = C.size + 3 := by rw [← hA, ByteArray.size_append]; rfl
    have zA : ¬ (9223372036854775807 < C.size + 3) := by omega
    obtain ⟨B, hB⟩ : ∃ Z_ : ByteArray, A ++ D = Z_ := ⟨_, rfl⟩
    have sB : B.size = A.size + D.size := by rw [← hB, ByteArray.size_append]
    have zB : ¬ (9223372036854775807 < A.size + D.size) := by omega
    obtain ⟨G, hG⟩ : ∃ Z_ : ByteArray, B ++ ⟨#[59]⟩ = Z_ := ⟨_, rfl⟩
    have sG : G.size = B.size + 1 := by rw [← hG, ByteArray.size_append]; rfl
    have zG : ¬ (9223372036854775807 < B.size + 1) := by omega
    rw [hA, hB, hG] at hE
    have hBz : G.size ≤ 10000000000 := by omega
    have HE := Lib.hid (And.intro hE hBz)
    have HGG := hG
    unfold TxtCall at WH WH2
    clear hE hBz sA sB sG hz hz2 hc hc2 hxk hxk2 hq hq2 hM1 hG
    rw [show ((15 : Nat) : Int) = 15 from rfl] at c0 hW1
    go_enter Tryz.func68, Tryz.ntmps68
    go_wp2_with fail
    rw [← hW1]
    clear hW1 c0 c1 c2 c3 c4 p0
    have d4 : W1.cell? ⟨w0.heap.size, 4, none⟩ = some (.slice (some ⟨lb, lo, none⟩) 2 lc) := blk_cell HK.out.2.2 4
    have p1 := P1.out
    refine wp_region_rv 22 GK (kindW [(9, (fun v => v = .string C), (fun _ _ => True)), (19, (fun v => v = .string D), (fun _ _ => True))]) (by kernel_rfl) (by kernel_rfl) (kb_trans _) (kb_refl _) (kb_start _ _) (kindW_mono _ (by intro p hp; simp only [List.mem_cons, List.not_mem_nil, or_false] at hp; (rcases hp with rfl | rfl <;> exact lasts_true))) ?_
    simp only [List.take_succ_cons, List.take_zero, List.drop_succ_cons, List.drop_zero]
    iterate 9 (refine rv_det (by kernel_rfl) rfl (by intro w hG hH; have hc0 := KB.cell hG (fun x => x) (p1); have hc1 := KB.cell hG (fun x => x) (d4); have hc2 := KB.cell hG (fun x => x) (m0); go_simp; first | done | with_reducible rfl) ?_; simp only [Act.put, List.setIfInBounds_toArray, List.set_cons_zero, List.set_cons_succ])
    refine rv_rel (by kernel_rfl) rfl ⟨_, rfl⟩ (by
      intro w hG hH
      refine opVal_call (by go_simp; first | done | exact ⟨⟨rfl, rfl⟩, rfl⟩) ?_
      refine (WH.out _ (HK.out.2.1.trans hG)).mono ?_
      rintro e w' ⟨rfl, hq⟩
      exact ⟨_, rfl, rfl, by first | (obtain ⟨nq, rfl⟩ := hq; exact (KB.refl _ _).drewN _) | (subst hq; exact KB.refl _ _) | exact hq, trivial⟩) ?_
    rintro v rfl
    simp only [Act.put, List.setIfInBounds_toArray, List.set_cons_zero, List.set_cons_succ]
    iterate 9 (refine rv_det (by kernel_rfl) rfl (by intro w hG hH; have hc0 := KB.cell hG (fun x => x) (p1); have hc1 := KB.cell hG (fun x => x) (d4); have hc2 := KB.cell hG (fun x => x) (m1); go_simp; first | done | with_reducible rfl) ?_; simp only [Act.put, List.setIfInBounds_toArray, List.set_cons_zero, List.set_cons_succ])
    refine rv_rel (by kernel_rfl) rfl ⟨_, rfl⟩ (by
      intro w hG hH
      refine opVal_call (by go_simp; first | done | exact ⟨⟨rfl, rfl⟩, rfl⟩) ?_
      refine (WH2.out _ (HK.out.2.1.trans hG)).mono ?_
      rintro e w' ⟨rfl, hq⟩
      exact ⟨_, rfl, rfl, by first | (obtain ⟨nq, rfl⟩ := hq; exact (KB.refl _ _).drewN _) | (subst hq; exact KB.refl _ _) | exact hq, trivial⟩) ?_
    rintro v rfl
    simp only [Act.put, List.setIfInBounds_toArray, List.set_cons_zero, List.set_cons_succ]
    iterate 2 (refine rv_det (by kernel_rfl) rfl (by intro w hG hH; go_simp; first | done | with_reducible rfl) ?_; simp only [Act.put, List.setIfInBounds_toArray, List.set_cons_zero, List.set_cons_succ])
    refine rv_nil (fun w hG hH => ?_)
    have K := Lib.hid (HK.out.1.trans hG)
    clear hG hH d4 p1 m0 m1
    go_wp2_with fail
    refine (LN.out G HE.out.2 _ K.out).mono ?_
    rintro e w5 hq5
    have H5 := Lib.hid hq5
    obtain ⟨rfl, v5, -, -⟩ := hq5
    go_wp2_with fail
    go_end0
    exact HF.out _ _ K.out _ _ H5.out HE.out.1
  · -- 16
    have hc := H9.out rfl
    have HC := Lib.hid (hc W1 HK.out.1)
    clear hc
    rw [show ((16 : Nat) : Int) = 16 from rfl] at c0 hW1
    go_enter Tryz.func68, Tryz.ntmps68
    go_wp2_with fail
    rw [← hW1]
    clear hW1 c0 c1 c2 c3 c4 p0
    refine HC.out.mono ?_
    rintro e w5 hq5
    have H5 := Lib.hid hq5
    obtain ⟨rfl, v5, -, -⟩ := hq5
    go_wp2_with fail
    go_end0
    exact HF.out _ _ HK.out.1 _ _ H5.out HRn.out
  · -- 17
    obtain ⟨hM1, ⟨q, hq, hxk, hz, hc⟩, q2, hq2, hbk, hq13, hqi, hqo, hB_⟩ := H4.out rfl
    have hE : R = if 1 < l.length then St5 ts (kid ⟨17, at_, m, s, l⟩ 1) inn (blB inn ++ (⟨#[119, 104, 105, 108, 101, 32]⟩ ++ exK ts ⟨17, at_, m, s, l⟩ 0 ++ ⟨#[32]⟩)) else [] := HR.out
    rw [hbk, hxk] at hE
    obtain rfl : M = 2 := by rw [HM.out]; exact hM1
    obtain ⟨lb, lo, rfl, hfirst⟩ := HI.out 0 (by rw [HM.out]; omega)
    clear hfirst
    have m0 := HI.out 0 (by rw [HM.out]; omega)
    obtain ⟨lb2, lo2, ee, m0⟩ := m0
    simp only [Option.some.injEq, Addr.mk.injEq, and_true] at ee
    obtain ⟨rfl, rfl⟩ := ee
    rw [hq] at m0
    have m0 := HK.out.2.1.cell (p := ⟨lb, lo + 0, none⟩) (fun x => x) m0
    rw [Nat.add_zero] at m0
    have m1 := HI.out 1 (by rw [HM.out]; omega)
    obtain ⟨lb2, lo2, ee, m1⟩ := m1
    simp only [Option.some.injEq, Addr.mk.injEq, and_true] at ee
    obtain ⟨rfl, rfl⟩ := ee
    rw [hq2] at m1
    have m1 := HK.out.2.1.cell (p := ⟨lb, lo + 1, none⟩) (fun x => x) m1
    have WH := Lib.hid hc
    generalize Ex ts q 1 = C at hz hE WH
    obtain ⟨A, hA⟩ : ∃ Z_ : ByteArray, ⟨#[119, 104, 105, 108, 101, 32]⟩ ++ C = Z_ := ⟨_, rfl⟩
    have sA : A.size = 6 + C.size := by rw [← hA, ByteArray.size_append]; rfl
    have zA : ¬ (9223372036854775807 < 6 + C.size) := by omega
    obtain ⟨B, hB⟩ : ∃ Z_ : ByteArray, A ++ ⟨#[32]⟩ = Z_ := ⟨_, rfl⟩
    have sB : B.size = A.size + 1 := by rw [← hB, ByteArray.size_append]; rfl
    have zB : ¬ (9223372036854775807 < A.size + 1) := by omega
    rw [hA, hB] at hE
    have hBz : B.size ≤ 100000000 := by omega
    unfold BlockAt at hB_
    rw [← HN.out] at hB_
    have HBK := Lib.hid (fun (W : World) (hk : KB F0 W1 W) => hB_ W v out out inn (blB inn) B 95 hq13 (HPG.out.kb hk) (HK.out.2.1.trans hk) hqi hqo hBz (BG.out W (HK.out.1.trans hk)) enters_line)
    clear hB_ hq13 hqi hqo
    have HE := Lib.hid (And.intro hE hBz)
    unfold TxtCall at WH
    clear hE hBz sA sB hz hc hxk hq hq2 hbk hM1
    rw [show ((17 : Nat) : Int) = 17 from rfl] at c0 hW1
    go_enter Tryz.func68, Tryz.ntmps68
    go_wp2_with fail
    rw [← hW1]
    clear hW1 c0 c1 c2 c3 c4 p0
    have d4 : W1.cell? ⟨w0.heap.size, 4, none⟩ = some (.slice (some ⟨lb, lo, none⟩) 2 lc) := blk_cell HK.out.2.2 4
    have p1 := P1.out
    refine wp_region_rv 18 GK (kindW [(9, (fun v => v = .string C), (fun _ _ => True))]) (by kernel_rfl) (by kernel_rfl) (kb_trans _) (kb_refl _) (kb_start _ _) (kindW_mono _ (by intro p hp; simp only [List.mem_cons, List.not_mem_nil, or_false] at hp; (subst hp; exact lasts_true))) ?_
    simp only [List.take_succ_cons, List.take_zero, List.drop_succ_cons, List.drop_zero]
    iterate 9 (refine rv_det (by kernel_rfl) rfl (by intro w hG hH; have hc0 := KB.cell hG (fun x => x) (p1); have hc1 := KB.cell hG (fun x => x) (d4); have hc2 := KB.cell hG (fun x => x) (m0); go_simp; first | done | with_reducible rfl) ?_; simp only [Act.put, List.setIfInBounds_toArray, List.set_cons_zero, List.set_cons_succ])
    refine rv_rel (by kernel_rfl) rfl ⟨_, rfl⟩ (by
      intro w hG hH
      refine opVal_call (by go_simp; first | done | exact ⟨⟨rfl, rfl⟩, rfl⟩) ?_
      refine (WH.out _ (HK.out.2.1.trans hG)).mono ?_
      rintro e w' ⟨rfl, hq⟩
      exact ⟨_, rfl, rfl, by first | (obtain ⟨nq, rfl⟩ := hq; exact (KB.refl _ _).drewN _) | (subst hq; exact KB.refl _ _) | exact hq, trivial⟩) ?_
    rintro v rfl
    simp only [Act.put, List.setIfInBounds_toArray, List.set_cons_zero, List.set_cons_succ]
    iterate 8 (refine rv_det (by kernel_rfl) rfl (by intro w hG hH; have hc0 := KB.cell hG (fun x => x) (d4); have hc1 := KB.cell hG (fun x => x) (m1); go_simp; first | done | with_reducible rfl) ?_; simp only [Act.put, List.setIfInBounds_toArray, List.set_cons_zero, List.set_cons_succ])
    refine rv_nil (fun w hG hH => ?_)
    have hcc := HBK.out w hG
    have HC := Lib.hid hcc
    have K := Lib.hid (HK.out.1.trans hG)
    clear hG hH d4 p1 m0 m1 hcc
    go_wp2_with fail
    refine HC.out.mono ?_
    rintro e w5 hq5
    have H5 := Lib.hid hq5
    obtain ⟨rfl, v5, -, -⟩ := hq5
    go_wp2_with fail
    go_end0
    exact HF.out _ _ K.out _ _ H5.out HE.out.1
  · -- 18
    obtain ⟨hM1, q, hq, hbk, hq13, hqi, hqo, hB⟩ := H5.out rfl
    have hE : R = if 0 < l.length then St5 ts (kid ⟨18, at_, m, s, l⟩ 0) inn (blB inn ++ ⟨#[108, 111, 111, 112, 32]⟩) else [] := HR.out
    rw [hbk] at hE
    obtain rfl : M = 1 := by rw [HM.out]; exact hM1
    obtain ⟨lb, lo, rfl, hfirst⟩ := HI.out 0 (by rw [HM.out]; omega)
    clear hfirst
    have m0 := HI.out 0 (by rw [HM.out]; omega)
    obtain ⟨lb2, lo2, ee, m0⟩ := m0
    simp only [Option.some.injEq, Addr.mk.injEq, and_true] at ee
    obtain ⟨rfl, rfl⟩ := ee
    rw [hq] at m0
    have m0 := HK.out.2.1.cell (p := ⟨lb, lo + 0, none⟩) (fun x => x) m0
    rw [Nat.add_zero] at m0
    unfold BlockAt at hB
    rw [← HN.out] at hB
    have hc := hB W1 v out out inn (blB inn) ⟨#[108, 111, 111, 112, 32]⟩ 95 hq13 HPG.out HK.out.2.1 hqi hqo (by decide) (BG.out W1 HK.out.1) enters_line
    have HC := Lib.hid hc
    have HE := Lib.hid hE
    clear hE hc hB hq hbk hq13 hqi hqo hM1
    rw [show ((18 : Nat) : Int) = 18 from rfl] at c0 hW1
    rw [hW1] at m0
    go_enter Tryz.func68, Tryz.ntmps68
    go_wp2_with fail
    rw [← hW1]
    clear hW1 c0 c1 c2 c3 c4 p0
    refine HC.out.mono ?_
    rintro e w5 hq5
    have H5 := Lib.hid hq5
    obtain ⟨rfl, v5, -, -⟩ := hq5
    go_wp2_with fail
    go_end0
    exact HF.out _ _ HK.out.1 _ _ H5.out HE.out
  · -- 19
    have hE : R = [blB inn ++ ⟨#[98, 114, 101, 97, 107, 59]⟩] := HR.out
    have HE := Lib.hid hE
    clear hE
    rw [show ((19 : Nat) : Int) = 19 from rfl] at c0 hW1
    go_enter Tryz.func68, Tryz.ntmps68
    go_wp2_with fail
    rw [← hW1]
    clear hW1 c0 c1 c2 c3 c4 p0
    refine (LN.out ⟨#[98, 114, 101, 97, 107, 59]⟩ (by decide) W1 HK.out.1).mono ?_
    rintro e w5 hq5
    have H5 := Lib.hid hq5
    obtain ⟨rfl, v5, -, -⟩ := hq5
    go_wp2_with fail
    go_end0
    exact HF.out _ _ HK.out.1 _ _ H5.out HE.out
  · -- 20
    have hE : R = [blB inn ++ ⟨#[99, 111, 110, 116, 105, 110, 117, 101, 59]⟩] := HR.out
    have HE := Lib.hid hE
    clear hE
    rw [show ((20 : Nat) : Int) = 20 from rfl] at c0 hW1
    go_enter Tryz.func68, Tryz.ntmps68
    go_wp2_with fail
    rw [← hW1]
    clear hW1 c0 c1 c2 c3 c4 p0
    refine (LN.out ⟨#[99, 111, 110, 116, 105, 110, 117, 101, 59]⟩ (by decide) W1 HK.out.1).mono ?_
    rintro e w5 hq5
    have H5 := Lib.hid hq5
    obtain ⟨rfl, v5, -, -⟩ := hq5
    go_wp2_with fail
    go_end0
    exact HF.out _ _ HK.out.1 _ _ H5.out HE.out
  · -- 21
    obtain ⟨hM1, q, hq, hxk, hz, hc⟩ := H1.out (by omega)
    have hE : R = [blB inn ++ (⟨#[114, 101, 116, 117, 114, 110, 32]⟩ ++ exK ts ⟨21, at_, m, s, l⟩ 0 ++ ⟨#[59]⟩)] := HR.out
    rw [hxk] at hE
    obtain rfl : M = 1 := by rw [HM.out]; exact hM1
    obtain ⟨lb, lo, rfl, hfirst⟩ := HI.out 0 (by rw [HM.out]; omega)
    clear hfirst
    have m0 := HI.out 0 (by rw [HM.out]; omega)
    obtain ⟨lb2, lo2, ee, m0⟩ := m0
    simp only [Option.some.injEq, Addr.mk.injEq, and_true] at ee
    obtain ⟨rfl, rfl⟩ := ee
    rw [hq] at m0
    have m0 := HK.out.2.1.cell (p := ⟨lb, lo + 0, none⟩) (fun x => x) m0
    rw [Nat.add_zero] at m0
    have WH := Lib.hid hc
    generalize Ex ts q 1 = C at hz hE WH
    obtain ⟨A, hA⟩ : ∃ Z_ : ByteArray, ⟨#[114, 101, 116, 117, 114, 110, 32]⟩ ++ C = Z_ := ⟨_, rfl⟩
    have sA : A.size = 7 + C.size := by rw [← hA, ByteArray.size_append]; rfl
    have zA : ¬ (9223372036854775807 < 7 + C.size) := by omega
    obtain ⟨B, hB⟩ : ∃ Z_ : ByteArray, A ++ ⟨#[59]⟩ = Z_ := ⟨_, rfl⟩
    have sB : B.size = A.size + 1 := by rw [← hB, ByteArray.size_append]; rfl
    have zB : ¬ (9223372036854775807 < A.size + 1) := by omega
    rw [hA, hB] at hE
    have hBz : B.size ≤ 10000000000 := by omega
    have HE := Lib.hid (And.intro hE hBz)
    unfold TxtCall at WH
    clear hE hBz sA sB hz hc hxk hq hM1
    rw [show ((21 : Nat) : Int) = 21 from rfl] at c0 hW1
    go_enter Tryz.func68, Tryz.ntmps68
    go_wp2_with fail
    rw [← hW1]
    clear hW1 c0 c1 c2 c3 c4 p0
    have d4 : W1.cell? ⟨w0.heap.size, 4, none⟩ = some (.slice (some ⟨lb, lo, none⟩) 1 lc) := blk_cell HK.out.2.2 4
    have p1 := P1.out
    refine wp_region_rv 12 GK (kindW [(9, (fun v => v = .string C), (fun _ _ => True))]) (by kernel_rfl) (by kernel_rfl) (kb_trans _) (kb_refl _) (kb_start _ _) (kindW_mono _ (by intro p hp; simp only [List.mem_cons, List.not_mem_nil, or_false] at hp; (subst hp; exact lasts_true))) ?_
    simp only [List.take_succ_cons, List.take_zero, List.drop_succ_cons, List.drop_zero]
    iterate 9 (refine rv_det (by kernel_rfl) rfl (by intro w hG hH; have hc0 := KB.cell hG (fun x => x) (p1); have hc1 := KB.cell hG (fun x => x) (d4); have hc2 := KB.cell hG (fun x => x) (m0); go_simp; first | done | with_reducible rfl) ?_; simp only [Act.put, List.setIfInBounds_toArray, List.set_cons_zero, List.set_cons_succ])
    refine rv_rel (by kernel_rfl) rfl ⟨_, rfl⟩ (by
      intro w hG hH
      refine opVal_call (by go_simp; first | done | exact ⟨⟨rfl, rfl⟩, rfl⟩) ?_
      refine (WH.out _ (HK.out.2.1.trans hG)).mono ?_
      rintro e w' ⟨rfl, hq⟩
      exact ⟨_, rfl, rfl, by first | (obtain ⟨nq, rfl⟩ := hq; exact (KB.refl _ _).drewN _) | (subst hq; exact KB.refl _ _) | exact hq, trivial⟩) ?_
    rintro v rfl
    simp only [Act.put, List.setIfInBounds_toArray, List.set_cons_zero, List.set_cons_succ]
    iterate 2 (refine rv_det (by kernel_rfl) rfl (by intro w hG hH; go_simp; first | done | with_reducible rfl) ?_; simp only [Act.put, List.setIfInBounds_toArray, List.set_cons_zero, List.set_cons_succ])
    refine rv_nil (fun w hG hH => ?_)
    have K := Lib.hid (HK.out.1.trans hG)
    clear hG hH d4 p1 m0
    go_wp2_with fail
    refine (LN.out B HE.out.2 _ K.out).mono ?_
    rintro e w5 hq5
    have H5 := Lib.hid hq5
    obtain ⟨rfl, v5, -, -⟩ := hq5
    go_wp2_with fail
    go_end0
    exact HF.out _ _ K.out _ _ H5.out HE.out.1
  · -- 22
    obtain ⟨hM1, q, hq, hxk, hz, hc⟩ := H1.out (by omega)
    have hE : R = [blB inn ++ (⟨#[112, 114, 105, 110, 116, 40]⟩ ++ exK ts ⟨22, at_, m, s, l⟩ 0 ++ ⟨#[41, 59]⟩)] := HR.out
    rw [hxk] at hE
    obtain rfl : M = 1 := by rw [HM.out]; exact hM1
    obtain ⟨lb, lo, rfl, hfirst⟩ := HI.out 0 (by rw [HM.out]; omega)
    clear hfirst
    have m0 := HI.out 0 (by rw [HM.out]; omega)
    obtain ⟨lb2, lo2, ee, m0⟩ := m0
    simp only [Option.some.injEq, Addr.mk.injEq, and_true] at ee
    obtain ⟨rfl, rfl⟩ := ee
    rw [hq] at m0
    have m0 := HK.out.2.1.cell (p := ⟨lb, lo + 0, none⟩) (fun x => x) m0
    rw [Nat.add_zero] at m0
    have WH := Lib.hid hc
    generalize Ex ts q 1 = C at hz hE WH
    obtain ⟨A, hA⟩ : ∃ Z_ : ByteArray, ⟨#[112, 114, 105, 110, 116, 40]⟩ ++ C = Z_ := ⟨_, rfl⟩
    have sA : A.size = 6 + C.size := by rw [← hA, ByteArray.size_append]; rfl
    have zA : ¬ (9223372036854775807 < 6 + C.size) := by omega
    obtain ⟨B, hB⟩ : ∃ Z_ : ByteArray, A ++ ⟨#[41, 59]⟩ = Z_ := ⟨_, rfl⟩
    have sB : B.size = A.size + 2 := by rw [← hB, ByteArray.size_append]; rfl
    have zB : ¬ (9223372036854775807 < A.size + 2) := by omega
    rw [hA, hB] at hE
    have hBz : B.size ≤ 10000000000 := by omega
    have HE := Lib.hid (And.intro hE hBz)
    unfold TxtCall at WH
    clear hE hBz sA sB hz hc hxk hq hM1
    rw [show ((22 : Nat) : Int) = 22 from rfl] at c0 hW1
    go_enter Tryz.func68, Tryz.ntmps68
    go_wp2_with fail
    rw [← hW1]
    clear hW1 c0 c1 c2 c3 c4 p0
    have d4 : W1.cell? ⟨w0.heap.size, 4, none⟩ = some (.slice (some ⟨lb, lo, none⟩) 1 lc) := blk_cell HK.out.2.2 4
    have p1 := P1.out
    refine wp_region_rv 12 GK (kindW [(9, (fun v => v = .string C), (fun _ _ => True))]) (by kernel_rfl) (by kernel_rfl) (kb_trans _) (kb_refl _) (kb_start _ _) (kindW_mono _ (by intro p hp; simp only [List.mem_cons, List.not_mem_nil, or_false] at hp; (subst hp; exact lasts_true))) ?_
    simp only [List.take_succ_cons, List.take_zero, List.drop_succ_cons, List.drop_zero]
    iterate 9 (refine rv_det (by kernel_rfl) rfl (by intro w hG hH; have hc0 := KB.cell hG (fun x => x) (p1); have hc1 := KB.cell hG (fun x => x) (d4); have hc2 := KB.cell hG (fun x => x) (m0); go_simp; first | done | with_reducible rfl) ?_; simp only [Act.put, List.setIfInBounds_toArray, List.set_cons_zero, List.set_cons_succ])
    refine rv_rel (by kernel_rfl) rfl ⟨_, rfl⟩ (by
      intro w hG hH
      refine opVal_call (by go_simp; first | done | exact ⟨⟨rfl, rfl⟩, rfl⟩) ?_
      refine (WH.out _ (HK.out.2.1.trans hG)).mono ?_
      rintro e w' ⟨rfl, hq⟩
      exact ⟨_, rfl, rfl, by first | (obtain ⟨nq, rfl⟩ := hq; exact (KB.refl _ _).drewN _) | (subst hq; exact KB.refl _ _) | exact hq, trivial⟩) ?_
    rintro v rfl
    simp only [Act.put, List.setIfInBounds_toArray, List.set_cons_zero, List.set_cons_succ]
    iterate 2 (refine rv_det (by kernel_rfl) rfl (by intro w hG hH; go_simp; first | done | with_reducible rfl) ?_; simp only [Act.put, List.setIfInBounds_toArray, List.set_cons_zero, List.set_cons_succ])
    refine rv_nil (fun w hG hH => ?_)
    have K := Lib.hid (HK.out.1.trans hG)
    clear hG hH d4 p1 m0
    go_wp2_with fail
    refine (LN.out B HE.out.2 _ K.out).mono ?_
    rintro e w5 hq5
    have H5 := Lib.hid hq5
    obtain ⟨rfl, v5, -, -⟩ := hq5
    go_wp2_with fail
    go_end0
    exact HF.out _ _ K.out _ _ H5.out HE.out.1
  · -- 23
    obtain ⟨hM1, q, hq, hxk, hz, hc⟩ := H2.out rfl
    have hE : R = [blB inn ++ (exK ts ⟨23, at_, m, s, l⟩ 0 ++ ⟨#[59]⟩)] := HR.out
    rw [hxk] at hE
    obtain rfl : M = 1 := by rw [HM.out]; exact hM1
    obtain ⟨lb, lo, rfl, hfirst⟩ := HI.out 0 (by rw [HM.out]; omega)
    clear hfirst
    have m0 := HI.out 0 (by rw [HM.out]; omega)
    obtain ⟨lb2, lo2, ee, m0⟩ := m0
    simp only [Option.some.injEq, Addr.mk.injEq, and_true] at ee
    obtain ⟨rfl, rfl⟩ := ee
    rw [hq] at m0
    have m0 := HK.out.2.1.cell (p := ⟨lb, lo + 0, none⟩) (fun x => x) m0
    rw [Nat.add_zero] at m0
    have WH := Lib.hid hc
    generalize Ex ts q 1 = C at hz hE WH
    obtain ⟨B, hB⟩ : ∃ Z_ : ByteArray, C ++ ⟨#[59]⟩ = Z_ := ⟨_, rfl⟩
    have sB : B.size = C.size + 1 := by rw [← hB, ByteArray.size_append]; rfl
    have zB : ¬ (9223372036854775807 < C.size + 1) := by omega
    rw [hB] at hE
    have hBz : B.size ≤ 10000000000 := by omega
    have HE := Lib.hid (And.intro hE hBz)
    unfold TxtCall at WH
    clear hE hBz sB hz hc hxk hq hM1
    rw [show ((23 : Nat) : Int) = 23 from rfl] at c0 hW1
    go_enter Tryz.func68, Tryz.ntmps68
    go_wp2_with fail
    rw [← hW1]
    clear hW1 c0 c1 c2 c3 c4 p0
    have d4 : W1.cell? ⟨w0.heap.size, 4, none⟩ = some (.slice (some ⟨lb, lo, none⟩) 1 lc) := blk_cell HK.out.2.2 4
    have p1 := P1.out
    refine wp_region_rv 11 GK (kindW [(9, (fun v => v = .string C), (fun _ _ => True))]) (by kernel_rfl) (by kernel_rfl) (kb_trans _) (kb_refl _) (kb_start _ _) (kindW_mono _ (by intro p hp; simp only [List.mem_cons, List.not_mem_nil, or_false] at hp; (subst hp; exact lasts_true))) ?_
    simp only [List.take_succ_cons, List.take_zero, List.drop_succ_cons, List.drop_zero]
    iterate 9 (refine rv_det (by kernel_rfl) rfl (by intro w hG hH; have hc0 := KB.cell hG (fun x => x) (p1); have hc1 := KB.cell hG (fun x => x) (d4); have hc2 := KB.cell hG (fun x => x) (m0); go_simp; first | done | with_reducible rfl) ?_; simp only [Act.put, List.setIfInBounds_toArray, List.set_cons_zero, List.set_cons_succ])
    refine rv_rel (by kernel_rfl) rfl ⟨_, rfl⟩ (by
      intro w hG hH
      refine opVal_call (by go_simp; first | done | exact ⟨⟨rfl, rfl⟩, rfl⟩) ?_
      refine (WH.out _ (HK.out.2.1.trans hG)).mono ?_
      rintro e w' ⟨rfl, hq⟩
      exact ⟨_, rfl, rfl, by first | (obtain ⟨nq, rfl⟩ := hq; exact (KB.refl _ _).drewN _) | (subst hq; exact KB.refl _ _) | exact hq, trivial⟩) ?_
    rintro v rfl
    simp only [Act.put, List.setIfInBounds_toArray, List.set_cons_zero, List.set_cons_succ]
    refine rv_det (by kernel_rfl) rfl (by intro w hG hH; go_simp; first | done | with_reducible rfl) ?_
    simp only [Act.put, List.setIfInBounds_toArray, List.set_cons_zero, List.set_cons_succ]
    refine rv_nil (fun w hG hH => ?_)
    have K := Lib.hid (HK.out.1.trans hG)
    clear hG hH d4 p1 m0
    go_wp2_with fail
    refine (LN.out B HE.out.2 _ K.out).mono ?_
    rintro e w5 hq5
    have H5 := Lib.hid hq5
    obtain ⟨rfl, v5, -, -⟩ := hq5
    go_wp2_with fail
    go_end0
    exact HF.out _ _ K.out _ _ H5.out HE.out.1
theorem page_all (ts : List Nd) (h : TOk ts) (hok : ∀ x ∈ ts, NdOk x) (a : Option Addr) (cap : Nat) (wb : World) (X : Nat) (hX : wb.heap.size ≤ X) (hts : NodesAt wb a ts) (hT : PT wb) (f : Nat) : ∀ n, n < ts.length → ts.length ≤ n + f → BlockAt ts a cap wb X n ∧ ChoiceAt ts a cap wb X n ∧ StmtAt ts a cap wb X n := by
  induction f with
  | zero => intro n h1 h2; omega
  | succ f ih =>
    intro n hn hf
    have hB := block_step ts h a cap wb X n hX hts hn (fun q h1 h2 => (ih q h2 (by omega)).2.2)
    have hC := choice_step ts h hok a cap wb X n hX hts hT hn (fun q h1 h2 => (ih q h2 (by omega)).1) (fun q h1 h2 => (ih q h2 (by omega)).2.1)
    exact ⟨hB, hC, stmt_step ts h hok a cap wb X n hX hts hT hn (fun q h1 h2 => (ih q h2 (by omega)).1) hB hC⟩
theorem stmt_any (ts : List Nd) (h : TOk ts) (hok : ∀ x ∈ ts, NdOk x) (a : Option Addr) (cap : Nat) (wb : World) (X : Nat) (hX : wb.heap.size ≤ X) (hts : NodesAt wb a ts) (hT : PT wb) {n : Nat} (hn : n < ts.length) : StmtAt ts a cap wb X n := (page_all ts h hok a cap wb X hX hts hT ts.length n hn (by omega)).2.2
end Go.Proofs.YtoophdcagpfmpaaGreatDoor

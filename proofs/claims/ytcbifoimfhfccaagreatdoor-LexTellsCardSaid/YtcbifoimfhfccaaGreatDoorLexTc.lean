/- loanwordref02.May, apart, walked; lex.Text of every token. -/
import Derived.Test.YtcbifoimfhfccaaGreatDoorLexTb
namespace Go.Proofs.YtcbifoimfhfccaaGreatDoor
open Go.RowKit

set_option maxRecDepth 100000 in
set_option maxHeartbeats 8000000 in
theorem rmay_any (t : Tk) (hn : Num64 t) (w : World) (hT : Tab w) : Calls Tryz.prog 9 #[.agg (tkC t)] w fun e w' => e = .returned (.bool (mayS t)) ∧ KB F0 w w' := by
  obtain ⟨w0, rfl⟩ : ∃ w0, w0 = w := ⟨_, rfl⟩
  have RT := Lib.hid (fun (W : World) (hk : KB F0 w0 W) => rtext_any { t with at_ := 0 } hn W (hT.kb hk))
  rw [show tkC t = #[.int .u8 (t.k : Nat), .int .i64 t.at_, .int .i64 t.n, .string t.s] from rfl]
  obtain ⟨r, hr⟩ : ∃ r, r = mayS t := ⟨_, rfl⟩
  rw [← hr]
  rw [← rmay_may] at hr
  unfold rmayB at hr
  have hp : mayS { t with at_ := 0 } = true → 0 < (textS { t with at_ := 0 }).size := fun h => (may_size h).1
  generalize textS { t with at_ := 0 } = u at RT hp
  generalize mayS { t with at_ := 0 } = q at RT hr hp
  unfold tkC at RT
  obtain ⟨k, at_, n, s⟩ := t
  simp only at hr RT ⊢
  have Hr := Lib.hid hr
  have HP := Lib.hid hp
  clear hn hT hr hp
  by_cases hat : at_ < 0
  · have t1 : decide (at_ < 0) = true := decide_eq_true hat
    have HE : Hid (r = false) := Lib.hid (by rw [Hr.out, decide_eq_false (by omega)]; rfl)
    clear hat
    go_enter Tryz.func9, Tryz.ntmps9
    go_wp2_with fail
    go_ret
    exact ⟨ret_eq (by rw [HE.out]; rfl), (KB.refl F0 w0).alloc _⟩
  have t1 : decide (at_ < 0) = false := decide_eq_false hat
  by_cases hk : k < 1
  · have t2 : decide ((k : Int) < 1) = true := decide_eq_true (by omega)
    have HE : Hid (r = false) := Lib.hid (by rw [Hr.out, decide_eq_false (show ¬ 1 ≤ k by omega)]; simp)
    clear hat hk
    go_enter Tryz.func9, Tryz.ntmps9
    go_wp2_with fail
    go_ret
    exact ⟨ret_eq (by rw [HE.out]; rfl), (KB.refl F0 w0).alloc _⟩
  have t2 : decide ((k : Int) < 1) = false := decide_eq_false (by omega)
  by_cases hk6 : 6 < k
  · have t3 : decide ((6 : Int) < (k : Int)) = true := decide_eq_true (by omega)
    have HE : Hid (r = false) := Lib.hid (by rw [Hr.out, decide_eq_false (show ¬ k ≤ 6 by omega)]; simp)
    clear hat hk hk6
    go_enter Tryz.func9, Tryz.ntmps9
    go_wp2_with fail
    go_ret
    exact ⟨ret_eq (by rw [HE.out]; rfl), (KB.refl F0 w0).alloc _⟩
  have t3 : decide ((6 : Int) < (k : Int)) = false := decide_eq_false (by omega)
  have HE : Hid (r = q) := Lib.hid (by rw [Hr.out, decide_eq_true (show 1 ≤ k by omega), decide_eq_true (show k ≤ 6 by omega), decide_eq_true (show 0 ≤ at_ by omega)]; rfl)
  clear hat hk hk6
  cases q
  · go_enter Tryz.func9, Tryz.ntmps9
    go_wp2_with fail
    refine (RT.out _ ((KB.refl F0 w0).alloc _)).mono ?_
    rintro e w1 ⟨rfl, k1⟩
    have K1 := Lib.hid (((KB.refl F0 w0).alloc _).trans k1)
    rw [show rtOut false u = .tuple #[.string ⟨#[]⟩, .int .i64 2] from rfl]
    clear k1
    go_wp2_with fail
    go_ret
    exact ⟨ret_eq (by rw [HE.out]; rfl), K1.out⟩
  · have hu0 := HP.out rfl
    have hne : u ≠ ⟨#[]⟩ := by
      intro h
      rw [h] at hu0
      exact absurd hu0 (by decide)
    have t5 : (u.toList == ([] : List UInt8)) = false := by
      have := tl_beq u ⟨#[]⟩
      rw [show (⟨#[]⟩ : ByteArray).toList = [] by decide +kernel] at this
      rw [this]; exact decide_eq_false hne
    have t6 : (u.toList == (⟨#[]⟩ : ByteArray).toList) = false := by rw [tl_beq]; exact decide_eq_false hne
    clear hu0 hne
    go_enter Tryz.func9, Tryz.ntmps9
    go_wp2_with fail
    refine (RT.out _ ((KB.refl F0 w0).alloc _)).mono ?_
    rintro e w1 ⟨rfl, k1⟩
    have K1 := Lib.hid (((KB.refl F0 w0).alloc _).trans k1)
    rw [show rtOut true u = .tuple #[.string u, .int .i64 0] from rfl]
    clear k1
    go_wp2_with fail
    go_ret
    exact ⟨ret_eq (by rw [HE.out]; first | rfl | simp [t5] | simp [t6]), K1.out⟩

theorem len_two {l : List Tk} (h : l.length = 2) : ∃ p q, l = [p, q] := by
  match l, h with
  | [p, q], _ => exact ⟨p, q, rfl⟩
/-- What loanwordref02.apart's tests say. -/
def RA (l : List Tk) (E : Nat) (x y : Tk) (r : Bool) : Prop :=
  (E ≠ 0 → r = false) ∧ (l.length ≠ 2 → r = false) ∧ ∀ p q, l = [p, q] → E = 0 →
    (p.k ≠ x.k → r = false) ∧ (p.s ≠ x.s → r = false) ∧ (p.n ≠ x.n → r = false) ∧ (q.k ≠ y.k → r = false) ∧ (q.s ≠ y.s → r = false) ∧ (q.n ≠ y.n → r = false) ∧ (p.k = x.k → p.s = x.s → p.n = x.n → q.k = y.k → q.s = y.s → q.n = y.n → r = true)
theorem ra_of (u : ByteArray) (x y : Tk) : RA (lexS u).1 (lexS u).2.2 x y (likeB u [x, y]) := by
  have no : likeB u [x, y] = true → (lexS u).2.2 = 0 ∧ (lexS u).1.length = 2 ∧ ∀ p q, (lexS u).1 = [p, q] → sameK p x = true ∧ sameK q y = true := fun h => by
    unfold likeB at h
    rw [Bool.and_eq_true, decide_eq_true_eq] at h
    refine ⟨h.1, (eqK_iff.1 h.2).1, fun p q e => ?_⟩
    rw [e] at h
    have h1 := eqK_cons.1 h.2
    exact ⟨h1.1, (eqK_cons.1 h1.2).1⟩
  have ff : ∀ {p : Prop}, (likeB u [x, y] = true → ¬ p) → p → likeB u [x, y] = false := fun {p} h hp => by
    cases hr : likeB u [x, y]
    · rfl
    · exact absurd hp (h hr)
  refine ⟨ff fun h => by have := (no h).1; omega, ff fun h => by have := (no h).2.1; omega, fun p q e h0 => ⟨ff fun h => ?_, ff fun h => ?_, ff fun h => ?_, ff fun h => ?_, ff fun h => ?_, ff fun h => ?_, fun e1 e2 e3 e4 e5 e6 => ?_⟩⟩
  · have := (sameK_iff.1 ((no h).2.2 p q e).1).1; omega
  · have := (sameK_iff.1 ((no h).2.2 p q e).1).2.2; exact fun hn => hn this
  · have := (sameK_iff.1 ((no h).2.2 p q e).1).2.1; omega
  · have := (sameK_iff.1 ((no h).2.2 p q e).2).1; omega
  · have := (sameK_iff.1 ((no h).2.2 p q e).2).2.2; exact fun hn => hn this
  · have := (sameK_iff.1 ((no h).2.2 p q e).2).2.1; omega
  · unfold likeB
    rw [h0, e, eqK_cons.2 ⟨sameK_iff.2 ⟨e1, e3, e2⟩, eqK_cons.2 ⟨sameK_iff.2 ⟨e4, e6, e5⟩, eqK_nil⟩⟩]
    rfl
set_option maxRecDepth 100000 in
set_option maxHeartbeats 16000000 in
theorem rapart_any (a b : ByteArray) (x y : Tk) (hz : a.size + b.size ≤ 1000000) (w : World) :
    Calls Tryz.prog 46 #[.string a, .string b, .agg (tkC x), .agg (tkC y)] w fun e w' => e = .returned (.bool (likeB (a ++ b) [x, y])) ∧ KB F0 w w' := by
  obtain ⟨w0, rfl⟩ : ∃ w0, w0 = w := ⟨_, rfl⟩
  rw [show tkC x = #[.int .u8 (x.k : Nat), .int .i64 x.at_, .int .i64 x.n, .string x.s] from rfl, show tkC y = #[.int .u8 (y.k : Nat), .int .i64 y.at_, .int .i64 y.n, .string y.s] from rfl]
  have HR := Lib.hid (ra_of (a ++ b) x y)
  have RL := Lib.hid (fun (W : World) => rlexT_any (a ++ b) (by rw [ByteArray.size_append]; omega) W)
  generalize likeB (a ++ b) [x, y] = r at HR ⊢
  generalize (lexS (a ++ b)).2.2 = E at HR RL
  generalize (lexS (a ++ b)).2.1 = p0 at RL
  generalize (lexS (a ++ b)).1 = l at HR RL
  have z1 : ¬ (9223372036854775807 < a.size + b.size) := by omega
  have z2 : ¬ (a.size + b.size > 9223372036854775807) := z1
  obtain ⟨W1, hW1⟩ : ∃ W1, W1 = (w0.alloc (.cells #[.int .u8 (x.k : Nat), .int .i64 x.at_, .int .i64 x.n, .string x.s] 27)).alloc (.cells #[.int .u8 (y.k : Nat), .int .i64 y.at_, .int .i64 y.n, .string y.s] 27) := ⟨_, rfl⟩
  have k1 : KB F0 w0 W1 := by rw [hW1]; exact ((KB.refl _ _).alloc _).alloc _
  have hs0 : (w0.alloc (.cells #[.int .u8 (x.k : Nat), .int .i64 x.at_, .int .i64 x.n, .string x.s] 27)).heap.size = w0.heap.size + 1 := by simp
  have h0h : W1.heap[w0.heap.size]? = some (.cells #[.int .u8 (x.k : Nat), .int .i64 x.at_, .int .i64 x.n, .string x.s] 27 (0, 0)) := by rw [hW1]; exact ((KB.refl F0 _).alloc _).heap (fun x => x) (alloc_new _ _)
  have h1h : W1.heap[w0.heap.size + 1]? = some (.cells #[.int .u8 (y.k : Nat), .int .i64 y.at_, .int .i64 y.n, .string y.s] 27 (0, 0)) := by rw [hW1, ← hs0]; exact alloc_new _ _
  have H1 := Lib.hid (And.intro k1 (And.intro h0h h1h))
  have HW1 := Lib.hid hW1
  clear hz hW1 k1 hs0 h0h h1h
  go_enter Tryz.func46, Tryz.ntmps46
  go_wp2_with fail
  rw [← HW1.out]
  refine (RL.out _).mono ?_
  rintro e w2 ⟨sa, c, rfl, hc, ht, k2⟩
  have hb := k2.heap (fun x => x) H1.out.2.1
  have hd := k2.heap (fun x => x) H1.out.2.2
  have b0 : w2.cell? ⟨w0.heap.size, 0, none⟩ = some (.int .u8 (x.k : Nat)) := blk_cell hb 0
  have b1 : w2.cell? ⟨w0.heap.size, 1, none⟩ = some (.int .i64 x.at_) := blk_cell hb 1
  have b2 : w2.cell? ⟨w0.heap.size, 2, none⟩ = some (.int .i64 x.n) := blk_cell hb 2
  have b3 : w2.cell? ⟨w0.heap.size, 3, none⟩ = some (.string x.s) := blk_cell hb 3
  have g0 : w2.cell? ⟨w0.heap.size + 1, 0, none⟩ = some (.int .u8 (y.k : Nat)) := blk_cell hd 0
  have g1 : w2.cell? ⟨w0.heap.size + 1, 1, none⟩ = some (.int .i64 y.at_) := blk_cell hd 1
  have g2 : w2.cell? ⟨w0.heap.size + 1, 2, none⟩ = some (.int .i64 y.n) := blk_cell hd 2
  have g3 : w2.cell? ⟨w0.heap.size + 1, 3, none⟩ = some (.string y.s) := blk_cell hd 3
  have K2 := Lib.hid (H1.out.1.trans k2)
  clear k2 hb hd RL
  by_cases he : E = 0
  case neg =>
    have t2 : ((E : Int) == 0) = false := by simp; omega
    have HE : Hid (r = false) := Lib.hid (HR.out.1 he)
    clear ht hc he
    go_wp2_with fail
    refine wp_region_rv 62 GQ (kindV []) (by kernel_rfl) (by kernel_rfl) GQ.trans GQ.refl (GQ.start _) (kindV_mono _) ?_
    simp only [List.take_succ_cons, List.take_zero, List.drop_succ_cons, List.drop_zero]
    iterate 3 (refine rv_det (by kernel_rfl) rfl (by intro w hG hH; obtain ⟨n, rfl⟩ := hG; go_simp; first | done | with_reducible rfl) ?_; simp only [Act.put, List.setIfInBounds_toArray, List.set_cons_zero, List.set_cons_succ])
    iterate 3 (refine rv_skip (by kernel_rfl) ?_; simp only [Act.put, List.setIfInBounds_toArray, List.set_cons_zero, List.set_cons_succ])
    iterate 2 (refine rv_det (by kernel_rfl) rfl (by intro w hG hH; obtain ⟨n, rfl⟩ := hG; go_simp; first | done | with_reducible rfl) ?_; simp only [Act.put, List.setIfInBounds_toArray, List.set_cons_zero, List.set_cons_succ])
    iterate 7 (refine rv_skip (by kernel_rfl) ?_; simp only [Act.put, List.setIfInBounds_toArray, List.set_cons_zero, List.set_cons_succ])
    iterate 2 (refine rv_det (by kernel_rfl) rfl (by intro w hG hH; obtain ⟨n, rfl⟩ := hG; go_simp; first | done | with_reducible rfl) ?_; simp only [Act.put, List.setIfInBounds_toArray, List.set_cons_zero, List.set_cons_succ])
    iterate 7 (refine rv_skip (by kernel_rfl) ?_; simp only [Act.put, List.setIfInBounds_toArray, List.set_cons_zero, List.set_cons_succ])
    iterate 2 (refine rv_det (by kernel_rfl) rfl (by intro w hG hH; obtain ⟨n, rfl⟩ := hG; go_simp; first | done | with_reducible rfl) ?_; simp only [Act.put, List.setIfInBounds_toArray, List.set_cons_zero, List.set_cons_succ])
    iterate 7 (refine rv_skip (by kernel_rfl) ?_; simp only [Act.put, List.setIfInBounds_toArray, List.set_cons_zero, List.set_cons_succ])
    iterate 2 (refine rv_det (by kernel_rfl) rfl (by intro w hG hH; obtain ⟨n, rfl⟩ := hG; go_simp; first | done | with_reducible rfl) ?_; simp only [Act.put, List.setIfInBounds_toArray, List.set_cons_zero, List.set_cons_succ])
    iterate 7 (refine rv_skip (by kernel_rfl) ?_; simp only [Act.put, List.setIfInBounds_toArray, List.set_cons_zero, List.set_cons_succ])
    iterate 2 (refine rv_det (by kernel_rfl) rfl (by intro w hG hH; obtain ⟨n, rfl⟩ := hG; go_simp; first | done | with_reducible rfl) ?_; simp only [Act.put, List.setIfInBounds_toArray, List.set_cons_zero, List.set_cons_succ])
    iterate 7 (refine rv_skip (by kernel_rfl) ?_; simp only [Act.put, List.setIfInBounds_toArray, List.set_cons_zero, List.set_cons_succ])
    iterate 2 (refine rv_det (by kernel_rfl) rfl (by intro w hG hH; obtain ⟨n, rfl⟩ := hG; go_simp; first | done | with_reducible rfl) ?_; simp only [Act.put, List.setIfInBounds_toArray, List.set_cons_zero, List.set_cons_succ])
    iterate 7 (refine rv_skip (by kernel_rfl) ?_; simp only [Act.put, List.setIfInBounds_toArray, List.set_cons_zero, List.set_cons_succ])
    iterate 2 (refine rv_det (by kernel_rfl) rfl (by intro w hG hH; obtain ⟨n, rfl⟩ := hG; go_simp; first | done | with_reducible rfl) ?_; simp only [Act.put, List.setIfInBounds_toArray, List.set_cons_zero, List.set_cons_succ])
    refine rv_nil (fun w hG hH => ?_)
    obtain ⟨n, rfl⟩ := hG
    clear hH
    go_wp2_with fail
    go_ret
    exact ⟨ret_eq (by rw [HE.out]; rfl), K2.out.drewN _⟩
  subst he
  by_cases hl : l.length = 2
  case neg =>
    have HE : Hid (r = false) := Lib.hid (HR.out.2.1 hl)
    have t3 : ((l.length : Int) == 2) = false := by simp; omega
    clear ht hc
    generalize l.length = N at t3 hl ⊢
    clear hl
    go_wp2_with fail
    refine wp_region_rv 62 GQ (kindV []) (by kernel_rfl) (by kernel_rfl) GQ.trans GQ.refl (GQ.start _) (kindV_mono _) ?_
    simp only [List.take_succ_cons, List.take_zero, List.drop_succ_cons, List.drop_zero]
    iterate 8 (refine rv_det (by kernel_rfl) rfl (by intro w hG hH; obtain ⟨n, rfl⟩ := hG; go_simp; first | done | with_reducible rfl) ?_; simp only [Act.put, List.setIfInBounds_toArray, List.set_cons_zero, List.set_cons_succ])
    iterate 7 (refine rv_skip (by kernel_rfl) ?_; simp only [Act.put, List.setIfInBounds_toArray, List.set_cons_zero, List.set_cons_succ])
    iterate 2 (refine rv_det (by kernel_rfl) rfl (by intro w hG hH; obtain ⟨n, rfl⟩ := hG; go_simp; first | done | with_reducible rfl) ?_; simp only [Act.put, List.setIfInBounds_toArray, List.set_cons_zero, List.set_cons_succ])
    iterate 7 (refine rv_skip (by kernel_rfl) ?_; simp only [Act.put, List.setIfInBounds_toArray, List.set_cons_zero, List.set_cons_succ])
    iterate 2 (refine rv_det (by kernel_rfl) rfl (by intro w hG hH; obtain ⟨n, rfl⟩ := hG; go_simp; first | done | with_reducible rfl) ?_; simp only [Act.put, List.setIfInBounds_toArray, List.set_cons_zero, List.set_cons_succ])
    iterate 7 (refine rv_skip (by kernel_rfl) ?_; simp only [Act.put, List.setIfInBounds_toArray, List.set_cons_zero, List.set_cons_succ])
    iterate 2 (refine rv_det (by kernel_rfl) rfl (by intro w hG hH; obtain ⟨n, rfl⟩ := hG; go_simp; first | done | with_reducible rfl) ?_; simp only [Act.put, List.setIfInBounds_toArray, List.set_cons_zero, List.set_cons_succ])
    iterate 7 (refine rv_skip (by kernel_rfl) ?_; simp only [Act.put, List.setIfInBounds_toArray, List.set_cons_zero, List.set_cons_succ])
    iterate 2 (refine rv_det (by kernel_rfl) rfl (by intro w hG hH; obtain ⟨n, rfl⟩ := hG; go_simp; first | done | with_reducible rfl) ?_; simp only [Act.put, List.setIfInBounds_toArray, List.set_cons_zero, List.set_cons_succ])
    iterate 7 (refine rv_skip (by kernel_rfl) ?_; simp only [Act.put, List.setIfInBounds_toArray, List.set_cons_zero, List.set_cons_succ])
    iterate 2 (refine rv_det (by kernel_rfl) rfl (by intro w hG hH; obtain ⟨n, rfl⟩ := hG; go_simp; first | done | with_reducible rfl) ?_; simp only [Act.put, List.setIfInBounds_toArray, List.set_cons_zero, List.set_cons_succ])
    iterate 7 (refine rv_skip (by kernel_rfl) ?_; simp only [Act.put, List.setIfInBounds_toArray, List.set_cons_zero, List.set_cons_succ])
    iterate 2 (refine rv_det (by kernel_rfl) rfl (by intro w hG hH; obtain ⟨n, rfl⟩ := hG; go_simp; first | done | with_reducible rfl) ?_; simp only [Act.put, List.setIfInBounds_toArray, List.set_cons_zero, List.set_cons_succ])
    refine rv_nil (fun w hG hH => ?_)
    obtain ⟨n, rfl⟩ := hG
    clear hH
    go_wp2_with fail
    go_ret
    exact ⟨ret_eq (by rw [HE.out]; rfl), K2.out.drewN _⟩
  obtain ⟨p, q, rfl⟩ := len_two hl
  obtain ⟨blk, off, rfl, hp⟩ := ht 0 (by simp)
  obtain ⟨blk', off', he, hq⟩ := ht 1 (by simp)
  simp only [Option.some.injEq, Addr.mk.injEq, and_true] at he
  obtain ⟨rfl, rfl⟩ := he
  simp only [List.getD_cons_zero, List.getD_cons_succ, List.length_cons, List.length_nil, Nat.zero_mul, Nat.one_mul, Nat.add_zero, Nat.zero_add, Nat.reduceAdd] at hp hq hc ⊢
  have HRX := Lib.hid (HR.out.2.2 p q rfl rfl)
  obtain ⟨pk, pa, pn, ps⟩ := p
  obtain ⟨qk, qa, qn, qs⟩ := q
  obtain ⟨xk, xa, xn, xs⟩ := x
  obtain ⟨yk, ya, yn, ys⟩ := y
  have y0 := hp.k
  have y1 := hp.at_
  have y2 := hp.n
  have y3 := hp.s
  have v0 := hq.k
  have v1 := hq.at_
  have v2 := hq.n
  have v3 := hq.s
  simp only at y0 y1 y2 y3 v0 v1 v2 v3 HRX b0 b1 b2 b3 g0 g1 g2 g3
  clear hp hq ht hl HR
  by_cases hh : pk = xk
  case neg =>
    have tk0 : ((pk : Int) == (xk : Int)) = false := by simp; omega
    have HE : Hid (r = false) := Lib.hid (HRX.out.1 hh)
    clear hh
    go_wp2_with fail
    refine wp_region_rv 62 GQ (kindV []) (by kernel_rfl) (by kernel_rfl) GQ.trans GQ.refl (GQ.start _) (kindV_mono _) ?_
    simp only [List.take_succ_cons, List.take_zero, List.drop_succ_cons, List.drop_zero]
    iterate 17 (refine rv_det (by kernel_rfl) rfl (by intro w hG hH; obtain ⟨n, rfl⟩ := hG; go_simp; first | done | with_reducible rfl) ?_; simp only [Act.put, List.setIfInBounds_toArray, List.set_cons_zero, List.set_cons_succ])
    iterate 7 (refine rv_skip (by kernel_rfl) ?_; simp only [Act.put, List.setIfInBounds_toArray, List.set_cons_zero, List.set_cons_succ])
    iterate 2 (refine rv_det (by kernel_rfl) rfl (by intro w hG hH; obtain ⟨n, rfl⟩ := hG; go_simp; first | done | with_reducible rfl) ?_; simp only [Act.put, List.setIfInBounds_toArray, List.set_cons_zero, List.set_cons_succ])
    iterate 7 (refine rv_skip (by kernel_rfl) ?_; simp only [Act.put, List.setIfInBounds_toArray, List.set_cons_zero, List.set_cons_succ])
    iterate 2 (refine rv_det (by kernel_rfl) rfl (by intro w hG hH; obtain ⟨n, rfl⟩ := hG; go_simp; first | done | with_reducible rfl) ?_; simp only [Act.put, List.setIfInBounds_toArray, List.set_cons_zero, List.set_cons_succ])
    iterate 7 (refine rv_skip (by kernel_rfl) ?_; simp only [Act.put, List.setIfInBounds_toArray, List.set_cons_zero, List.set_cons_succ])
    iterate 2 (refine rv_det (by kernel_rfl) rfl (by intro w hG hH; obtain ⟨n, rfl⟩ := hG; go_simp; first | done | with_reducible rfl) ?_; simp only [Act.put, List.setIfInBounds_toArray, List.set_cons_zero, List.set_cons_succ])
    iterate 7 (refine rv_skip (by kernel_rfl) ?_; simp only [Act.put, List.setIfInBounds_toArray, List.set_cons_zero, List.set_cons_succ])
    iterate 2 (refine rv_det (by kernel_rfl) rfl (by intro w hG hH; obtain ⟨n, rfl⟩ := hG; go_simp; first | done | with_reducible rfl) ?_; simp only [Act.put, List.setIfInBounds_toArray, List.set_cons_zero, List.set_cons_succ])
    iterate 7 (refine rv_skip (by kernel_rfl) ?_; simp only [Act.put, List.setIfInBounds_toArray, List.set_cons_zero, List.set_cons_succ])
    iterate 2 (refine rv_det (by kernel_rfl) rfl (by intro w hG hH; obtain ⟨n, rfl⟩ := hG; go_simp; first | done | with_reducible rfl) ?_; simp only [Act.put, List.setIfInBounds_toArray, List.set_cons_zero, List.set_cons_succ])
    refine rv_nil (fun w hG hH => ?_)
    obtain ⟨n, rfl⟩ := hG
    clear hH
    go_wp2_with fail
    go_ret
    exact ⟨ret_eq (by rw [HE.out]; rfl), K2.out.drewN _⟩
  subst hh
  by_cases hh : ps = xs
  case neg =>
    have ts0 : (ps.toList == xs.toList) = false := by rw [tl_beq]; exact decide_eq_false hh
    have HE : Hid (r = false) := Lib.hid (HRX.out.2.1 hh)
    clear hh
    go_wp2_with fail
    refine wp_region_rv 62 GQ (kindV []) (by kernel_rfl) (by kernel_rfl) GQ.trans GQ.refl (GQ.start _) (kindV_mono _) ?_
    simp only [List.take_succ_cons, List.take_zero, List.drop_succ_cons, List.drop_zero]
    iterate 26 (refine rv_det (by kernel_rfl) rfl (by intro w hG hH; obtain ⟨n, rfl⟩ := hG; go_simp; first | done | with_reducible rfl) ?_; simp only [Act.put, List.setIfInBounds_toArray, List.set_cons_zero, List.set_cons_succ])
    iterate 7 (refine rv_skip (by kernel_rfl) ?_; simp only [Act.put, List.setIfInBounds_toArray, List.set_cons_zero, List.set_cons_succ])
    iterate 2 (refine rv_det (by kernel_rfl) rfl (by intro w hG hH; obtain ⟨n, rfl⟩ := hG; go_simp; first | done | with_reducible rfl) ?_; simp only [Act.put, List.setIfInBounds_toArray, List.set_cons_zero, List.set_cons_succ])
    iterate 7 (refine rv_skip (by kernel_rfl) ?_; simp only [Act.put, List.setIfInBounds_toArray, List.set_cons_zero, List.set_cons_succ])
    iterate 2 (refine rv_det (by kernel_rfl) rfl (by intro w hG hH; obtain ⟨n, rfl⟩ := hG; go_simp; first | done | with_reducible rfl) ?_; simp only [Act.put, List.setIfInBounds_toArray, List.set_cons_zero, List.set_cons_succ])
    iterate 7 (refine rv_skip (by kernel_rfl) ?_; simp only [Act.put, List.setIfInBounds_toArray, List.set_cons_zero, List.set_cons_succ])
    iterate 2 (refine rv_det (by kernel_rfl) rfl (by intro w hG hH; obtain ⟨n, rfl⟩ := hG; go_simp; first | done | with_reducible rfl) ?_; simp only [Act.put, List.setIfInBounds_toArray, List.set_cons_zero, List.set_cons_succ])
    iterate 7 (refine rv_skip (by kernel_rfl) ?_; simp only [Act.put, List.setIfInBounds_toArray, List.set_cons_zero, List.set_cons_succ])
    iterate 2 (refine rv_det (by kernel_rfl) rfl (by intro w hG hH; obtain ⟨n, rfl⟩ := hG; go_simp; first | done | with_reducible rfl) ?_; simp only [Act.put, List.setIfInBounds_toArray, List.set_cons_zero, List.set_cons_succ])
    refine rv_nil (fun w hG hH => ?_)
    obtain ⟨n, rfl⟩ := hG
    clear hH
    go_wp2_with fail
    go_ret
    exact ⟨ret_eq (by rw [HE.out]; rfl), K2.out.drewN _⟩
  subst hh
  by_cases hh : pn = xn
  case neg =>
    have tn0 : (pn == xn) = false := by simpa using hh
    have HE : Hid (r = false) := Lib.hid (HRX.out.2.2.1 hh)
    clear hh
    go_wp2_with fail
    refine wp_region_rv 62 GQ (kindV []) (by kernel_rfl) (by kernel_rfl) GQ.trans GQ.refl (GQ.start _) (kindV_mono _) ?_
    simp only [List.take_succ_cons, List.take_zero, List.drop_succ_cons, List.drop_zero]
    iterate 35 (refine rv_det (by kernel_rfl) rfl (by intro w hG hH; obtain ⟨n, rfl⟩ := hG; go_simp; first | done | with_reducible rfl) ?_; simp only [Act.put, List.setIfInBounds_toArray, List.set_cons_zero, List.set_cons_succ])
    iterate 7 (refine rv_skip (by kernel_rfl) ?_; simp only [Act.put, List.setIfInBounds_toArray, List.set_cons_zero, List.set_cons_succ])
    iterate 2 (refine rv_det (by kernel_rfl) rfl (by intro w hG hH; obtain ⟨n, rfl⟩ := hG; go_simp; first | done | with_reducible rfl) ?_; simp only [Act.put, List.setIfInBounds_toArray, List.set_cons_zero, List.set_cons_succ])
    iterate 7 (refine rv_skip (by kernel_rfl) ?_; simp only [Act.put, List.setIfInBounds_toArray, List.set_cons_zero, List.set_cons_succ])
    iterate 2 (refine rv_det (by kernel_rfl) rfl (by intro w hG hH; obtain ⟨n, rfl⟩ := hG; go_simp; first | done | with_reducible rfl) ?_; simp only [Act.put, List.setIfInBounds_toArray, List.set_cons_zero, List.set_cons_succ])
    iterate 7 (refine rv_skip (by kernel_rfl) ?_; simp only [Act.put, List.setIfInBounds_toArray, List.set_cons_zero, List.set_cons_succ])
    iterate 2 (refine rv_det (by kernel_rfl) rfl (by intro w hG hH; obtain ⟨n, rfl⟩ := hG; go_simp; first | done | with_reducible rfl) ?_; simp only [Act.put, List.setIfInBounds_toArray, List.set_cons_zero, List.set_cons_succ])
    refine rv_nil (fun w hG hH => ?_)
    obtain ⟨n, rfl⟩ := hG
    clear hH
    go_wp2_with fail
    go_ret
    exact ⟨ret_eq (by rw [HE.out]; rfl), K2.out.drewN _⟩
  subst hh
  by_cases hh : qk = yk
  case neg =>
    have tk1 : ((qk : Int) == (yk : Int)) = false := by simp; omega
    have HE : Hid (r = false) := Lib.hid (HRX.out.2.2.2.1 hh)
    clear hh
    go_wp2_with fail
    refine wp_region_rv 62 GQ (kindV []) (by kernel_rfl) (by kernel_rfl) GQ.trans GQ.refl (GQ.start _) (kindV_mono _) ?_
    simp only [List.take_succ_cons, List.take_zero, List.drop_succ_cons, List.drop_zero]
    iterate 44 (refine rv_det (by kernel_rfl) rfl (by intro w hG hH; obtain ⟨n, rfl⟩ := hG; go_simp; first | done | with_reducible rfl) ?_; simp only [Act.put, List.setIfInBounds_toArray, List.set_cons_zero, List.set_cons_succ])
    iterate 7 (refine rv_skip (by kernel_rfl) ?_; simp only [Act.put, List.setIfInBounds_toArray, List.set_cons_zero, List.set_cons_succ])
    iterate 2 (refine rv_det (by kernel_rfl) rfl (by intro w hG hH; obtain ⟨n, rfl⟩ := hG; go_simp; first | done | with_reducible rfl) ?_; simp only [Act.put, List.setIfInBounds_toArray, List.set_cons_zero, List.set_cons_succ])
    iterate 7 (refine rv_skip (by kernel_rfl) ?_; simp only [Act.put, List.setIfInBounds_toArray, List.set_cons_zero, List.set_cons_succ])
    iterate 2 (refine rv_det (by kernel_rfl) rfl (by intro w hG hH; obtain ⟨n, rfl⟩ := hG; go_simp; first | done | with_reducible rfl) ?_; simp only [Act.put, List.setIfInBounds_toArray, List.set_cons_zero, List.set_cons_succ])
    refine rv_nil (fun w hG hH => ?_)
    obtain ⟨n, rfl⟩ := hG
    clear hH
    go_wp2_with fail
    go_ret
    exact ⟨ret_eq (by rw [HE.out]; rfl), K2.out.drewN _⟩
  subst hh
  by_cases hh : qs = ys
  case neg =>
    have ts1 : (qs.toList == ys.toList) = false := by rw [tl_beq]; exact decide_eq_false hh
    have HE : Hid (r = false) := Lib.hid (HRX.out.2.2.2.2.1 hh)
    clear hh
    go_wp2_with fail
    refine wp_region_rv 62 GQ (kindV []) (by kernel_rfl) (by kernel_rfl) GQ.trans GQ.refl (GQ.start _) (kindV_mono _) ?_
    simp only [List.take_succ_cons, List.take_zero, List.drop_succ_cons, List.drop_zero]
    iterate 53 (refine rv_det (by kernel_rfl) rfl (by intro w hG hH; obtain ⟨n, rfl⟩ := hG; go_simp; first | done | with_reducible rfl) ?_; simp only [Act.put, List.setIfInBounds_toArray, List.set_cons_zero, List.set_cons_succ])
    iterate 7 (refine rv_skip (by kernel_rfl) ?_; simp only [Act.put, List.setIfInBounds_toArray, List.set_cons_zero, List.set_cons_succ])
    iterate 2 (refine rv_det (by kernel_rfl) rfl (by intro w hG hH; obtain ⟨n, rfl⟩ := hG; go_simp; first | done | with_reducible rfl) ?_; simp only [Act.put, List.setIfInBounds_toArray, List.set_cons_zero, List.set_cons_succ])
    refine rv_nil (fun w hG hH => ?_)
    obtain ⟨n, rfl⟩ := hG
    clear hH
    go_wp2_with fail
    go_ret
    exact ⟨ret_eq (by rw [HE.out]; rfl), K2.out.drewN _⟩
  subst hh
  by_cases hh : qn = yn
  case neg =>
    have tn1 : (qn == yn) = false := by simpa using hh
    have HE : Hid (r = false) := Lib.hid (HRX.out.2.2.2.2.2.1 hh)
    clear hh
    go_wp2_with fail
    refine wp_region_rv 62 GQ (kindV []) (by kernel_rfl) (by kernel_rfl) GQ.trans GQ.refl (GQ.start _) (kindV_mono _) ?_
    simp only [List.take_succ_cons, List.take_zero, List.drop_succ_cons, List.drop_zero]
    iterate 62 (refine rv_det (by kernel_rfl) rfl (by intro w hG hH; obtain ⟨n, rfl⟩ := hG; go_simp; first | done | with_reducible rfl) ?_; simp only [Act.put, List.setIfInBounds_toArray, List.set_cons_zero, List.set_cons_succ])
    refine rv_nil (fun w hG hH => ?_)
    obtain ⟨n, rfl⟩ := hG
    clear hH
    go_wp2_with fail
    go_ret
    exact ⟨ret_eq (by rw [HE.out]; rfl), K2.out.drewN _⟩
  subst hh
  have HE : Hid (r = true) := Lib.hid (HRX.out.2.2.2.2.2.2 rfl rfl rfl rfl rfl rfl)
  go_wp2_with fail
  refine wp_region_rv 62 GQ (kindV []) (by kernel_rfl) (by kernel_rfl) GQ.trans GQ.refl (GQ.start _) (kindV_mono _) ?_
  simp only [List.take_succ_cons, List.take_zero, List.drop_succ_cons, List.drop_zero]
  iterate 62 (refine rv_det (by kernel_rfl) rfl (by intro w hG hH; obtain ⟨n, rfl⟩ := hG; go_simp; first | done | with_reducible rfl) ?_; simp only [Act.put, List.setIfInBounds_toArray, List.set_cons_zero, List.set_cons_succ])
  refine rv_nil (fun w hG hH => ?_)
  obtain ⟨n, rfl⟩ := hG
  clear hH
  go_wp2_with fail
  go_ret
  exact ⟨ret_eq (by rw [HE.out]; rfl), K2.out.drewN _⟩

set_option maxRecDepth 100000 in
set_option maxHeartbeats 8000000 in
theorem textP_no (t : Tk) (hn : Num64 t) (hm : mayS t = false) (w : World) (hT : Tab w) : Calls Tryz.prog 6 #[.agg (tkC t)] w fun e w' => e = .returned (.tuple #[.string ⟨#[]⟩, .int .i64 2]) ∧ KB F0 w w' := by
  obtain ⟨w0, rfl⟩ : ∃ w0, w0 = w := ⟨_, rfl⟩
  have MY := Lib.hid (fun (W : World) (hk : KB F0 w0 W) => may_any t hn W (hT.kb hk))
  rw [hm] at MY
  unfold tkC at MY ⊢
  clear hn hT hm
  go_enter Tryz.func6, Tryz.ntmps6
  go_wp2_with fail
  refine (MY.out _ ((KB.refl F0 w0).alloc _)).mono ?_
  rintro e w1 ⟨rfl, k1⟩
  have K1 := Lib.hid (((KB.refl F0 w0).alloc _).trans k1)
  clear k1 MY
  go_wp2_with fail
  go_ret2
  exact ⟨rfl, K1.out⟩
theorem textP_all (t : Tk) (hn : Num64 t) (w : World) (hT : Tab w) : Calls Tryz.prog 6 #[.agg (tkC t)] w fun e w' => e = .returned (rtOut (mayS t) (textS t)) ∧ KB F0 w w' := by
  cases h : mayS t
  · exact textP_no t hn h w hT
  · exact textP_any t hn h w hT
end Go.Proofs.YtcbifoimfhfccaaGreatDoor

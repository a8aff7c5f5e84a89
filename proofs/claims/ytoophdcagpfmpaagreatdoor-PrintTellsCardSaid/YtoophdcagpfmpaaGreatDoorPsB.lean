/- loanwordref05: list, bare, expr. -/
import Derived.Test.YtoophdcagpfmpaaGreatDoorPsA
import Derived.BigRegion
namespace Go.Proofs.YtoophdcagpfmpaaGreatDoor
open Go.RowKit

theorem empty_app (x : ByteArray) : ByteArray.empty ++ x = x := ByteArray.empty_append
theorem shareP {G Q : Prop} (h : G) (k : G → Q) : Q := k h
theorem jn_next {sep : ByteArray} {g : Nat → ByteArray} {k : Nat} (h : k ≠ 0) : jnK sep g (k + 1) = jnK sep g k ++ sep ++ g k := if_neg h
/-- An expression's text is not empty. -/
theorem ex_pos {ts : List Nd} (h : TOk ts) {n : Nat} (hn : n < ts.length) (hk : isExprB (ts.getD n nd0).k = true) (l : Nat) (hok : ∀ x ∈ ts, NdOk x) : 0 < (Ex ts n l).size := by
  have hc := expr_cases hk
  have ht := (h.txt hn).1
  have hx := hok _ (getD_memN hn)
  rw [Ex_eq h.down hn]
  unfold wrapN
  split
  · rw [ByteArray.size_append, ByteArray.size_append]
    have : (⟨#[40]⟩ : ByteArray).size = 1 := rfl
    omega
  · generalize chE (Ex ts) (ts.getD n nd0) = ch
    generalize iniE ts (Ex ts) (ts.getD n nd0) = ini
    unfold bareN
    split
    · show 0 < (Lib.itoa _).toArray.size
      rw [List.size_toArray]
      unfold Lib.itoa
      split
      · exact Nat.zero_lt_succ _
      · rw [Lib.decDigits_length]; exact Lib.nDigits_pos _
    · split
      · exact Nat.zero_lt_succ _
      · exact Nat.zero_lt_succ _
    · have := ht (by omega); omega
    · have := ht (by omega); simp only [ByteArray.size_append]; omega
    · rw [ByteArray.size_append]; have : (⟨#[42]⟩ : ByteArray).size = 1 := rfl; omega
    · unfold ampB
      have e1 : (⟨#[38, 109, 117, 116, 32]⟩ : ByteArray).size = 5 := rfl
      have e2 : (⟨#[38, 32]⟩ : ByteArray).size = 2 := rfl
      have e3 : (⟨#[38]⟩ : ByteArray).size = 1 := rfl
      rw [if_pos (show ByteArray.empty.size = 0 from rfl)]
      split
      · rw [ByteArray.size_append]; omega
      · split
        · rw [ByteArray.size_append]; omega
        · rw [ByteArray.size_append]; omega
    · rw [ByteArray.size_append]; have : (⟨#[45]⟩ : ByteArray).size = 1 := rfl; omega
    · rw [ByteArray.size_append]; have : (⟨#[33]⟩ : ByteArray).size = 1 := rfl; omega
    · simp only [ByteArray.size_append]; have : (⟨#[32]⟩ : ByteArray).size = 1 := rfl; omega
    · simp only [ByteArray.size_append]; have : (⟨#[40]⟩ : ByteArray).size = 1 := rfl; omega
    · simp only [ByteArray.size_append]; have : (⟨#[32, 125]⟩ : ByteArray).size = 2 := rfl; omega
    · simp only [ByteArray.size_append]; have : (⟨#[41]⟩ : ByteArray).size = 1 := rfl; omega
    · exact Nat.zero_lt_succ _
set_option maxRecDepth 100000 in
set_option maxHeartbeats 4000000 in
theorem rlist_any (tv : Value) (la : Option Addr) (M lc : Nat) (cs : Nat → Int) (g : Nat → ByteArray) (w : World) (hM : M ≤ 20000) (hcs : ∀ i, i < M → ∃ b o, la = some ⟨b, o, none⟩ ∧ w.cell? ⟨b, o + i, none⟩ = some (.int .i64 (cs i)))
    (hc : ∀ i, i < M → ∀ W, KB F0 w W → TxtCall 47 #[.agg #[tv], .int .i64 (cs i), .int .i64 1] W (g i)) (hs : (jnK ⟨#[44, 32]⟩ g M).size ≤ 100000000000) :
    TxtCall 107 #[.agg #[tv], .slice la M lc] w (jnK ⟨#[44, 32]⟩ g M) := by
  obtain ⟨w0, rfl⟩ : ∃ w0, w0 = w := ⟨_, rfl⟩
  obtain ⟨W1, hW1⟩ : ∃ W1, W1 = w0.alloc (.cells #[tv] 24) := ⟨_, rfl⟩
  have k1 : KB F0 w0 W1 := by rw [hW1]; exact (KB.refl _ _).alloc _
  have hb1 : W1.heap[w0.heap.size]? = some (.cells #[tv] 24 (0, 0)) := by rw [hW1]; exact alloc_new _ _
  have HCS := Lib.hid hcs
  have HC := Lib.hid hc
  have HB := Lib.hid (And.intro k1 hb1)
  have HW := Lib.hid hW1
  have HZ : Hid (∀ k, k ≤ M → (jnK ⟨#[44, 32]⟩ g k).size ≤ 100000000000) := Lib.hid (fun k hk => Nat.le_trans (jnK_le hk) hs)
  unfold TxtCall at HC
  have H0 : Hid (KB F0 W1 W1) := Lib.hid (KB.refl _ _)
  clear hcs hc hs k1 hb1 hW1
  unfold TxtCall
  go_enter Tryz.func107, Tryz.ntmps107
  go_wp2_with fail
  rw [← HW.out]
  go_loopw [5, 6] (fun sv kv wr => ∃ k : Nat, k ≤ M ∧ sv = .string (jnK ⟨#[44, 32]⟩ g k) ∧ kv = .int .i64 (k : Nat) ∧ Hid (KB F0 W1 wr)) (fun _ kv _ => M - (intOf kv).toNat)
  case atStart => exact ⟨0, by omega, rfl, rfl, H0⟩
  case round =>
    obtain ⟨k, hk, rfl, rfl, hst⟩ := hrel
    clear H0
    by_cases hlt : k < M
    · have hkM : (k : Int) < (M : Int) := by omega
      obtain ⟨b, o, rfl, hc0⟩ := HCS.out k hlt
      have hc1 := (HB.out.1.trans hst.out).cell (p := ⟨b, o + k, none⟩) (fun x => x) hc0
      have C1 := Lib.hid (HC.out k hlt)
      have e0 : wr.cell? ⟨w0.heap.size, 0, none⟩ = some tv := blk_cell (hst.out.heap (fun x => x) HB.out.2) 0
      have hz1 := HZ.out (k + 1) (by omega)
      have hj0 : k = 0 → jnK ⟨#[44, 32]⟩ g (k + 1) = jnK ⟨#[44, 32]⟩ g k ++ g k := fun e => by subst e; exact (empty_app _).symm
      have hj1 : k ≠ 0 → jnK ⟨#[44, 32]⟩ g (k + 1) = jnK ⟨#[44, 32]⟩ g k ++ ⟨#[44, 32]⟩ ++ g k := fun e => jn_next e
      have hnx : Hid (jnK ⟨#[44, 32]⟩ g (k + 1) = jnK ⟨#[44, 32]⟩ g (k + 1)) := Lib.hid rfl
      obtain ⟨S, hS⟩ : ∃ S, S = jnK ⟨#[44, 32]⟩ g k := ⟨_, rfl⟩
      obtain ⟨S2, hS2⟩ : ∃ S, S = jnK ⟨#[44, 32]⟩ g (k + 1) := ⟨_, rfl⟩
      have HS2 := Lib.hid hS2
      rw [← hS, ← hS2] at hj0 hj1
      rw [← hS2] at hz1
      rw [← hS]
      generalize g k = G at C1 hj0 hj1
      generalize cs k = c at hc1 C1
      clear hc0 hS hS2 hnx
      by_cases h0 : k = 0
      · have hE := (hj0 h0).symm
        have t1 : decide (0 < k) = false := decide_eq_false (by omega)
        have sE : S2.size = S.size + G.size := by rw [← hE, ByteArray.size_append]
        have z1 : ¬ (9223372036854775807 < S.size + G.size) := by omega
        clear hj0 hj1 h0 sE hz1
        go_wp2_with fail
        refine wp_region_rv 9 GK (kindW [(6, (fun v => v = .string G), (fun _ _ => True))]) (by kernel_rfl) (by kernel_rfl) (kb_trans _) (kb_refl _) (kb_start _ _) (kindW_mono _ (by intro p hp; simp only [List.mem_cons, List.not_mem_nil, or_false] at hp; (subst hp; exact lasts_true))) ?_
        simp only [List.take_succ_cons, List.take_zero, List.drop_succ_cons, List.drop_zero]
        iterate 6 (refine rv_det (by kernel_rfl) rfl (by intro w hG hH; have hc0 := KB.cell hG (fun x => x) (e0); have hc1 := KB.cell hG (fun x => x) (hc1); go_simp; first | done | with_reducible rfl) ?_; simp only [Act.put, List.setIfInBounds_toArray, List.set_cons_zero, List.set_cons_succ])
        refine rv_rel (by kernel_rfl) rfl ⟨_, rfl⟩ (by
          intro w hG hH
          refine opVal_call (by go_simp; first | done | exact ⟨⟨rfl, rfl⟩, rfl⟩) ?_
          refine (C1.out _ ((HB.out.1.trans hst.out).trans hG)).mono ?_
          rintro e w' ⟨rfl, hq⟩
          exact ⟨_, rfl, rfl, by first | (obtain ⟨nq, rfl⟩ := hq; exact (KB.refl _ _).drewN _) | (subst hq; exact KB.refl _ _) | exact hq, trivial⟩) ?_
        rintro v rfl
        simp only [Act.put, List.setIfInBounds_toArray, List.set_cons_zero, List.set_cons_succ]
        iterate 2 (refine rv_det (by kernel_rfl) rfl (by intro w hG hH; go_simp; first | done | with_reducible rfl) ?_; simp only [Act.put, List.setIfInBounds_toArray, List.set_cons_zero, List.set_cons_succ])
        refine rv_nil (fun w hG hH => ?_)
        have H1 : Hid (KB F0 W1 w) := Lib.hid (hst.out.trans hG)
        clear hG hH e0 hc1
        go_wp2_with fail
        go_roundw
        case rel => exact ⟨k + 1, by omega, by rw [← HS2.out], by go_num, H1⟩
        case measure => simp [intOf]; omega
      · have hE2 := hj1 h0
        obtain ⟨A, hA⟩ : ∃ Z_ : ByteArray, S ++ ⟨#[44, 32]⟩ = Z_ := ⟨_, rfl⟩
        rw [hA] at hE2
        have hE := hE2.symm
        have t1 : decide (0 < k) = true := decide_eq_true (by omega)
        have sA : A.size = S.size + 2 := by rw [← hA, ByteArray.size_append]; rfl
        have sE : S2.size = A.size + G.size := by rw [← hE, ByteArray.size_append]
        have z1 : ¬ (9223372036854775807 < S.size + 2) := by omega
        have z2 : ¬ (9223372036854775807 < A.size + G.size) := by omega
        clear hj0 hj1 h0 sE sA hz1 hE2
        go_wp2_with fail
        refine wp_region_rv 9 GK (kindW [(6, (fun v => v = .string G), (fun _ _ => True))]) (by kernel_rfl) (by kernel_rfl) (kb_trans _) (kb_refl _) (kb_start _ _) (kindW_mono _ (by intro p hp; simp only [List.mem_cons, List.not_mem_nil, or_false] at hp; (subst hp; exact lasts_true))) ?_
        simp only [List.take_succ_cons, List.take_zero, List.drop_succ_cons, List.drop_zero]
        iterate 6 (refine rv_det (by kernel_rfl) rfl (by intro w hG hH; have hc0 := KB.cell hG (fun x => x) (e0); have hc1 := KB.cell hG (fun x => x) (hc1); go_simp; first | done | with_reducible rfl) ?_; simp only [Act.put, List.setIfInBounds_toArray, List.set_cons_zero, List.set_cons_succ])
        refine rv_rel (by kernel_rfl) rfl ⟨_, rfl⟩ (by
          intro w hG hH
          refine opVal_call (by go_simp; first | done | exact ⟨⟨rfl, rfl⟩, rfl⟩) ?_
          refine (C1.out _ ((HB.out.1.trans hst.out).trans hG)).mono ?_
          rintro e w' ⟨rfl, hq⟩
          exact ⟨_, rfl, rfl, by first | (obtain ⟨nq, rfl⟩ := hq; exact (KB.refl _ _).drewN _) | (subst hq; exact KB.refl _ _) | exact hq, trivial⟩) ?_
        rintro v rfl
        simp only [Act.put, List.setIfInBounds_toArray, List.set_cons_zero, List.set_cons_succ]
        iterate 2 (refine rv_det (by kernel_rfl) rfl (by intro w hG hH; go_simp; first | done | with_reducible rfl) ?_; simp only [Act.put, List.setIfInBounds_toArray, List.set_cons_zero, List.set_cons_succ])
        refine rv_nil (fun w hG hH => ?_)
        have H1 : Hid (KB F0 W1 w) := Lib.hid (hst.out.trans hG)
        clear hG hH e0 hc1
        go_wp2_with fail
        go_roundw
        case rel => exact ⟨k + 1, by omega, by rw [← HS2.out], by go_num, H1⟩
        case measure => simp [intOf]; omega
    · obtain rfl : k = M := by omega
      go_wp2_with fail
      go_ret
      exact ⟨rfl, HB.out.1.trans hst.out⟩
set_option maxRecDepth 100000 in
set_option maxHeartbeats 32000000 in
theorem bare_step (ts : List Nd) (h : TOk ts) (hok : ∀ x ∈ ts, NdOk x) (a : Option Addr) (cap n : Nat) (hi : n < ts.length) (w : World) (hts : NodesAt w a ts) (hT : PT w) (hex : isExprB (ts.getD n nd0).k = true)
    (ih : ∀ (q least : Nat) (W : World), n < q → q < ts.length → least ≤ 8 → KB F0 w W → isExprB (ts.getD q nd0).k = true → TxtCall 47 #[.agg #[.slice a ts.length cap], .int .i64 q, .int .i64 least] W (Ex ts q least)) :
    TxtCall 72 #[.agg #[.slice a ts.length cap], .int .i64 n] w (bareN (ts.getD n nd0) (chE (Ex ts) (ts.getD n nd0)) (iniE ts (Ex ts) (ts.getD n nd0))) := by
  obtain ⟨w0, rfl⟩ : ∃ w0, w0 = w := ⟨_, rfl⟩
  have hlen := h.len
  obtain ⟨r, hr⟩ : ∃ r, r = bareN (ts.getD n nd0) (chE (Ex ts) (ts.getD n nd0)) (iniE ts (Ex ts) (ts.getD n nd0)) := ⟨_, rfl⟩
  rw [← hr]
  have htx := h.txt hi
  have hxk := hok _ (getD_memN hi)
  have hsz : ∀ q l, q < ts.length → (Ex ts q l).size ≤ 4000000 := fun q l hq => by
    have h1 := Ex_size h hok l hq
    have h2 := wt1_pos h.good hq
    omega
  have h1c : (ts.getD n nd0).k = 27 ∨ (ts.getD n nd0).k = 28 ∨ (ts.getD n nd0).k = 29 ∨ (ts.getD n nd0).k = 30 ∨ (ts.getD n nd0).k = 31 ∨ (ts.getD n nd0).k = 36 → ∃ q : Nat, (ts.getD n nd0).l.length = 1 ∧ (ts.getD n nd0).l.getD 0 0 = (q : Int) ∧ q < ts.length ∧
      (∀ l, chE (Ex ts) (ts.getD n nd0) 0 l = Ex ts q l) ∧ (∀ l, 0 < (Ex ts q l).size) ∧ ∀ (l : Nat) (W : World), l ≤ 8 → KB F0 w0 W → TxtCall 47 #[.agg #[.slice a ts.length cap], .int .i64 q, .int .i64 l] W (Ex ts q l) := fun e => by
    have e1 := h.ex1 hi (by omega)
    have e2 := h.kid hi (i := 0) (by omega)
    exact ⟨_, e1.1, e2.2.2, e2.2.1, fun l => by unfold chE; rw [if_pos (by omega)], fun l => ex_pos h e2.2.1 e1.2 l hok, fun l W hl hk => ih _ l W e2.1 e2.2.1 hl hk e1.2⟩
  have h2c : (ts.getD n nd0).k = 32 → ∃ q q2 : Nat, (ts.getD n nd0).l.length = 2 ∧ (ts.getD n nd0).l.getD 0 0 = (q : Int) ∧ (ts.getD n nd0).l.getD 1 0 = (q2 : Int) ∧ q < ts.length ∧ q2 < ts.length ∧
      (∀ l, chE (Ex ts) (ts.getD n nd0) 0 l = Ex ts q l) ∧ (∀ l, chE (Ex ts) (ts.getD n nd0) 1 l = Ex ts q2 l) ∧ (∀ (l : Nat) (W : World), l ≤ 8 → KB F0 w0 W → TxtCall 47 #[.agg #[.slice a ts.length cap], .int .i64 q, .int .i64 l] W (Ex ts q l)) ∧
      ∀ (l : Nat) (W : World), l ≤ 8 → KB F0 w0 W → TxtCall 47 #[.agg #[.slice a ts.length cap], .int .i64 q2, .int .i64 l] W (Ex ts q2 l) := fun e => by
    have e1 := h.ex2 hi (by omega)
    have e2 := h.kid hi (i := 0) (by omega)
    have e3 := h.kid hi (i := 1) (by omega)
    exact ⟨_, _, e1.1, e2.2.2, e3.2.2, e2.2.1, e3.2.1, fun l => by unfold chE; rw [if_pos (by omega)], fun l => by unfold chE; rw [if_pos (by omega)], fun l W hl hk => ih _ l W e2.1 e2.2.1 hl hk e1.2.1, fun l W hl hk => ih _ l W e3.1 e3.2.1 hl hk e1.2.2⟩
  have hjn : ∀ (g : Nat → ByteArray) M, M ≤ 8 → (∀ i, i < M → (g i).size ≤ 5000000) → (jnK ⟨#[44, 32]⟩ g M).size ≤ 50000000 := fun g M hM hg => by
    have := jnK_size (sep := ⟨#[44, 32]⟩) (g := g) (C := 5000002) (w := fun _ => 1) (k := M) (fun i hi => by have := hg i hi; have : (⟨#[44, 32]⟩ : ByteArray).size = 2 := rfl; omega)
    have h1 : ∀ k, sumK (fun _ => 1) k = k := fun k => by
      induction k with
      | zero => rfl
      | succ k ih => unfold sumK; rw [ih]
    rw [h1] at this
    omega
  have hcl : (ts.getD n nd0).k = 33 → (ts.getD n nd0).l.length ≤ 8 ∧ (jnK ⟨#[44, 32]⟩ (fun i => chE (Ex ts) (ts.getD n nd0) i 1) (ts.getD n nd0).l.length).size ≤ 50000000 ∧
      ∀ i, i < (ts.getD n nd0).l.length → ∀ W, KB F0 w0 W → TxtCall 47 #[.agg #[.slice a ts.length cap], .int .i64 ((ts.getD n nd0).l.getD i 0), .int .i64 1] W (chE (Ex ts) (ts.getD n nd0) i 1) := fun e => by
    have e1 := h.call hi e
    refine ⟨e1.1, hjn _ _ e1.1 (fun i hi2 => ?_), fun i hi2 W hk => ?_⟩
    · have e2 := h.kid hi hi2
      unfold chE; rw [if_pos hi2]
      have := hsz _ 1 e2.2.1
      omega
    · have e2 := h.kid hi hi2
      have e3 := ih _ 1 W e2.1 e2.2.1 (by omega) hk (e1.2 i hi2)
      unfold chE; rw [if_pos hi2, e2.2.2]
      exact e3
  have hmk : (ts.getD n nd0).k = 34 → (ts.getD n nd0).l.length ≤ 8 ∧ (jnK ⟨#[44, 32]⟩ (iniE ts (Ex ts) (ts.getD n nd0)) (ts.getD n nd0).l.length).size ≤ 50000000 ∧
      ∀ i, i < (ts.getD n nd0).l.length → ∃ (b off p q la2 lo2 lc2 : Nat) (k2 : Nat) (a2 n2 : Int) (s2 : ByteArray), a = some ⟨b, off, none⟩ ∧ (ts.getD n nd0).l.getD i 0 = (p : Int) ∧ p < ts.length ∧ w0.cell? ⟨b, off + p * 5, none⟩ = some (.int .u8 (k2 : Nat)) ∧ w0.cell? ⟨b, off + p * 5 + 1, none⟩ = some (.int .i64 a2) ∧ w0.cell? ⟨b, off + p * 5 + 2, none⟩ = some (.int .i64 n2) ∧
        w0.cell? ⟨b, off + p * 5 + 3, none⟩ = some (.string s2) ∧ w0.cell? ⟨b, off + p * 5 + 4, none⟩ = some (.slice (some ⟨la2, lo2, none⟩) 1 lc2) ∧ w0.cell? ⟨la2, lo2, none⟩ = some (.int .i64 q) ∧ s2.size ≤ 32 ∧ (Ex ts q 1).size ≤ 4000000 ∧ iniE ts (Ex ts) (ts.getD n nd0) i = s2 ++ ⟨#[58, 32]⟩ ++ Ex ts q 1 ∧
        ∀ W, KB F0 w0 W → TxtCall 47 #[.agg #[.slice a ts.length cap], .int .i64 q, .int .i64 1] W (Ex ts q 1) := fun e => by
    have e1 := h.make hi e
    have hone : ∀ i, i < (ts.getD n nd0).l.length → ∃ q : Nat, (ts.getD (kid (ts.getD n nd0) i) nd0).l.length = 1 ∧ (ts.getD (kid (ts.getD n nd0) i) nd0).l.getD 0 0 = (q : Int) ∧ kid (ts.getD n nd0) i < q ∧ q < ts.length ∧ isExprB (ts.getD q nd0).k = true ∧
        iniE ts (Ex ts) (ts.getD n nd0) i = (ts.getD (kid (ts.getD n nd0) i) nd0).s ++ ⟨#[58, 32]⟩ ++ Ex ts q 1 := fun i hi2 => by
      have e2 := h.kid hi hi2
      have e4 := h.ex1 e2.2.1 (by have := e1.2 i hi2; omega)
      have e5 := h.kid e2.2.1 (i := 0) (by omega)
      refine ⟨_, e4.1, e5.2.2, e5.1, e5.2.1, e4.2, ?_⟩
      unfold iniE; rw [if_pos hi2]
      congr 1
      unfold chE; rw [if_pos (by omega)]
    refine ⟨e1.1, hjn _ _ e1.1 (fun i hi2 => ?_), fun i hi2 => ?_⟩
    · obtain ⟨q, f1, f2, f3, f4, f5, f6⟩ := hone i hi2
      have e2 := h.kid hi hi2
      have s1 := (h.txt e2.2.1).2.1
      have s2 := hsz q 1 f4
      have : (⟨#[58, 32]⟩ : ByteArray).size = 2 := rfl
      rw [f6, ByteArray.size_append, ByteArray.size_append]
      omega
    · obtain ⟨q, f1, f2, f3, f4, f5, f6⟩ := hone i hi2
      have e2 := h.kid hi hi2
      obtain ⟨b, off, ha, hx⟩ := hts _ e2.2.1
      obtain ⟨la, lc, hl4, hints, hlc, hlm⟩ := hx.l
      obtain ⟨lb, lo, rfl, hcl⟩ := hints 0 (by omega)
      rw [f1] at hl4
      rw [f2, Nat.add_zero] at hcl
      exact ⟨b, off, _, q, lb, lo, lc, _, _, _, _, ha, e2.2.2, e2.2.1, hx.k, hx.at_, hx.n, hx.s, hl4, hcl, (h.txt e2.2.1).2.1, hsz q 1 f4, f6, fun W2 hk2 => ih _ 1 W2 (by omega) f4 (by omega) hk2 f5⟩
  obtain ⟨b, off, rfl, hx⟩ := hts n hi
  generalize ts.getD n nd0 = x at hx hr hex h1c h2c hcl hmk htx hxk
  obtain ⟨la, lc, hl4, hints, hlc, hlm⟩ := hx.l
  unfold maxLen at hlm
  obtain ⟨k, at_, m, s, l⟩ := x
  simp only at hr hex h1c h2c hcl hmk htx hl4 hints hlc
  obtain ⟨W1, hW1⟩ : ∃ W1, W1 = w0.alloc (.cells #[.slice (some ⟨b, off, none⟩) ts.length cap] 24) := ⟨_, rfl⟩
  have k1 : KB F0 w0 W1 := by rw [hW1]; exact (KB.refl _ _).alloc _
  have c0 : W1.cell? ⟨b, off + n * 5, none⟩ = some (.int .u8 (k : Nat)) := k1.cell (p := ⟨b, off + n * 5, none⟩) (fun x => x) hx.k
  have c1 : W1.cell? ⟨b, off + n * 5 + 1, none⟩ = some (.int .i64 at_) := k1.cell (p := ⟨b, off + n * 5 + 1, none⟩) (fun x => x) hx.at_
  have c2 : W1.cell? ⟨b, off + n * 5 + 2, none⟩ = some (.int .i64 m) := k1.cell (p := ⟨b, off + n * 5 + 2, none⟩) (fun x => x) hx.n
  have c3 : W1.cell? ⟨b, off + n * 5 + 3, none⟩ = some (.string s) := k1.cell (p := ⟨b, off + n * 5 + 3, none⟩) (fun x => x) hx.s
  have c4 := k1.cell (p := ⟨b, off + n * 5 + 4, none⟩) (fun x => x) hl4
  obtain ⟨N, hN⟩ : ∃ N, N = ts.length := ⟨_, rfl⟩
  rw [← hN] at hi hlen h1c h2c hcl hmk hsz hW1 ⊢
  have hiN : (n : Int) < (N : Int) := by omega
  obtain ⟨M, hM⟩ : ∃ M, M = l.length := ⟨_, rfl⟩
  obtain ⟨W2, hW2⟩ : ∃ W2, W2 = W1.alloc (.cells #[.int .u8 (k : Nat), .int .i64 at_, .int .i64 m, .string s, .slice la M lc] 44) := ⟨_, rfl⟩
  rw [← hM] at hl4 hlc c4 h1c h2c hcl hmk
  have hb1 : W2.heap[w0.heap.size]? = some (.cells #[.slice (some ⟨b, off, none⟩) N cap] 24 (0, 0)) := by
    rw [hW2]
    exact ((KB.refl F0 W1).alloc _).heap (fun x => x) (by rw [hW1]; exact alloc_new _ _)
  have hs1 : W1.heap.size = w0.heap.size + 1 := by rw [hW1]; simp
  have hb2 : W2.heap[w0.heap.size + 1]? = some (.cells #[.int .u8 (k : Nat), .int .i64 at_, .int .i64 m, .string s, .slice la M lc] 44 (0, 0)) := by rw [hW2, ← hs1]; exact alloc_new _ _
  have k2 : KB F0 w0 W2 := by rw [hW2]; exact k1.alloc _
  have hown := lv_le k s
  have LV := Lib.hid (fun (W : World) => rlevel_any k at_ m s la M lc W)
  have HT := Lib.hid (fun (W : World) (hk : KB F0 w0 W) => hT.kb hk)
  have HK := Lib.hid (And.intro k2 (And.intro hb1 hb2))
  have HW := Lib.hid (And.intro hW2 hW1)
  have HI := Lib.hid (fun i (hi : i < M) => hints i (by rw [← hM]; exact hi))
  have HX := Lib.hid hxk
  have HTX := Lib.hid htx
  have HC1 := Lib.hid h1c
  have HC2 := Lib.hid h2c
  have HCL := Lib.hid hcl
  have HMK := Lib.hid hmk
  have HSZ := Lib.hid hsz
  have HR := Lib.hid hr
  have HM := Lib.hid hM
  have HOW := Lib.hid hown
  have hcases := expr_cases hex
  have hN16 : N ≤ 16384 := hlen
  rw [hW1] at c0 c1 c2 c3 c4
  clear hN hx hts ih h hsz hr hM hown hxk htx h1c h2c hcl hmk hjn hints hT hok k1 k2 hb1 hb2 hs1 hl4 hex hlc hlen hW1 hW2
  unfold TxtCall
  rcases hcases with rfl | rfl | rfl | rfl | rfl | rfl | rfl | rfl | rfl | rfl | rfl | rfl | rfl
  · -- 24
    have hr2 : r = ⟨(Lib.itoa m).toArray⟩ := HR.out
    have FI := Lib.hid (fun (W : World) (hk : KB F0 w0 W) => Tryz.strconv_FormatInt_10 m HX.out.n1 HX.out.n2 W (HT.out W hk).pow)
    rw [← hr2] at FI
    clear hr2
    have HW2 : Hid (W2 = W1.alloc (.cells #[.int .u8 24, .int .i64 at_, .int .i64 m, .string s, .slice la M lc] 44)) := Lib.hid HW.out.1
    go_enter Tryz.func72, Tryz.ntmps72
    go_wp2_with fail
    rw [← HW.out.2, ← HW2.out]
    clear c0 c1 c2 c3 c4 HW2
    have e0 : W2.cell? ⟨w0.heap.size, 0, none⟩ = some (.slice (some ⟨b, off, none⟩) N cap) := blk_cell HK.out.2.1 0
    have d0 : W2.cell? ⟨w0.heap.size + 1, 0, none⟩ = some (.int .u8 24) := blk_cell HK.out.2.2 0
    have d1 : W2.cell? ⟨w0.heap.size + 1, 1, none⟩ = some (.int .i64 at_) := blk_cell HK.out.2.2 1
    have d2 : W2.cell? ⟨w0.heap.size + 1, 2, none⟩ = some (.int .i64 m) := blk_cell HK.out.2.2 2
    have d3 : W2.cell? ⟨w0.heap.size + 1, 3, none⟩ = some (.string s) := blk_cell HK.out.2.2 3
    have d4 : W2.cell? ⟨w0.heap.size + 1, 4, none⟩ = some (.slice la M lc) := blk_cell HK.out.2.2 4
    refine (FI.out _ HK.out.1).mono ?_
    rintro e w4 ⟨rfl, hw⟩
    have K := Lib.hid (HK.out.1.trans (kb_grow hw))
    clear hw d0 d1 d2 d3 d4 e0
    go_wp2_with fail
    go_ret
    exact ⟨rfl, K.out⟩
  · -- 25
    have hr2 : r = if m = 1 then ⟨#[116, 114, 117, 101]⟩ else ⟨#[102, 97, 108, 115, 101]⟩ := HR.out
    by_cases h1 : m = 1
    · have t1 : (m == 1) = true := by simp [h1]
      have HE : Hid (r = ⟨#[116, 114, 117, 101]⟩) := Lib.hid (by rw [hr2, if_pos h1])
      clear hr2 h1
      go_enter Tryz.func72, Tryz.ntmps72
      go_wp2_with fail
      go_ret
      exact ⟨ret_eq (by rw [HE.out]; rfl), by have := HK.out.1; rw [HW.out.1, HW.out.2] at this; exact this⟩
    · have t1 : (m == 1) = false := by simp [h1]
      have HE : Hid (r = ⟨#[102, 97, 108, 115, 101]⟩) := Lib.hid (by rw [hr2, if_neg h1])
      clear hr2 h1
      go_enter Tryz.func72, Tryz.ntmps72
      go_wp2_with fail
      go_ret
      exact ⟨ret_eq (by rw [HE.out]; rfl), by have := HK.out.1; rw [HW.out.1, HW.out.2] at this; exact this⟩
  · -- 26
    have HE : Hid (r = s) := Lib.hid HR.out
    go_enter Tryz.func72, Tryz.ntmps72
    go_wp2_with fail
    go_ret
    exact ⟨ret_eq (by rw [HE.out]; rfl), by have := HK.out.1; rw [HW.out.1, HW.out.2] at this; exact this⟩
  · -- 27
    obtain ⟨q, hM1, hq, hqN, hch, hpos, hc⟩ := HC1.out (by decide)
    obtain rfl := hM1
    obtain ⟨lb, lo, rfl, hcl⟩ := HI.out 0 (by decide)
    rw [hq, Nat.add_zero] at hcl
    have hcl := HK.out.1.cell (p := ⟨lb, lo, none⟩) (fun x => x) hcl
    have hz := HSZ.out q 7 hqN
    have hch := hch 7
    have hpos := hpos 7
    have CH := Lib.hid (fun (W : World) (hk : KB F0 w0 W) => hc 7 W (by decide) hk)
    generalize Ex ts q 7 = C at hz hch CH hpos
    unfold TxtCall at CH
    clear hc hq hqN
    have hr2 : r = C ++ ⟨#[46]⟩ ++ s := by rw [HR.out]; show chE _ _ 0 7 ++ _ ++ _ = _; rw [hch]
    obtain ⟨A, hA⟩ : ∃ Z_ : ByteArray, C ++ ⟨#[46]⟩ = Z_ := ⟨_, rfl⟩
    have sA : A.size = C.size + 1 := by rw [← hA, ByteArray.size_append]; rfl
    rw [hA] at hr2
    have hr3 := hr2.symm
    have hss := HTX.out.2.1
    have z1 : ¬ (9223372036854775807 < C.size + 1) := by omega
    have z2 : ¬ (9223372036854775807 < A.size + s.size) := by omega
    clear hr2 hss sA hz hch hpos
    have HW2 : Hid (W2 = W1.alloc (.cells #[.int .u8 27, .int .i64 at_, .int .i64 m, .string s, .slice (some ⟨lb, lo, none⟩) 1 lc] 44)) := Lib.hid HW.out.1
    go_enter Tryz.func72, Tryz.ntmps72
    go_wp2_with fail
    rw [← HW.out.2, ← HW2.out]
    clear c0 c1 c2 c3 c4 HW2
    have e0 : W2.cell? ⟨w0.heap.size, 0, none⟩ = some (.slice (some ⟨b, off, none⟩) N cap) := blk_cell HK.out.2.1 0
    have d0 : W2.cell? ⟨w0.heap.size + 1, 0, none⟩ = some (.int .u8 27) := blk_cell HK.out.2.2 0
    have d1 : W2.cell? ⟨w0.heap.size + 1, 1, none⟩ = some (.int .i64 at_) := blk_cell HK.out.2.2 1
    have d2 : W2.cell? ⟨w0.heap.size + 1, 2, none⟩ = some (.int .i64 m) := blk_cell HK.out.2.2 2
    have d3 : W2.cell? ⟨w0.heap.size + 1, 3, none⟩ = some (.string s) := blk_cell HK.out.2.2 3
    have d4 : W2.cell? ⟨w0.heap.size + 1, 4, none⟩ = some (.slice (some ⟨lb, lo, none⟩) 1 lc) := blk_cell HK.out.2.2 4
    refine wp_region_rv 11 GK (kindW [(5, (fun v => v = .string C), (fun _ _ => True))]) (by kernel_rfl) (by kernel_rfl) (kb_trans _) (kb_refl _) (kb_start _ _) (kindW_mono _ (by intro p hp; simp only [List.mem_cons, List.not_mem_nil, or_false] at hp; (subst hp; exact lasts_true))) ?_
    simp only [List.take_succ_cons, List.take_zero, List.drop_succ_cons, List.drop_zero]
    iterate 5 (refine rv_det (by kernel_rfl) rfl (by intro w hG hH; have hc0 := KB.cell hG (fun x => x) (e0); have hc1 := KB.cell hG (fun x => x) (d4); have hc2 := KB.cell hG (fun x => x) (hcl); go_simp; first | done | with_reducible rfl) ?_; simp only [Act.put, List.setIfInBounds_toArray, List.set_cons_zero, List.set_cons_succ])
    refine rv_rel (by kernel_rfl) rfl ⟨_, rfl⟩ (by
      intro w hG hH
      refine opVal_call (by go_simp; first | done | exact ⟨⟨rfl, rfl⟩, rfl⟩) ?_
      refine (CH.out _ (HK.out.1.trans hG)).mono ?_
      rintro e w' ⟨rfl, hq⟩
      exact ⟨_, rfl, rfl, by first | (obtain ⟨nq, rfl⟩ := hq; exact (KB.refl _ _).drewN _) | (subst hq; exact KB.refl _ _) | exact hq, trivial⟩) ?_
    rintro v rfl
    simp only [Act.put, List.setIfInBounds_toArray, List.set_cons_zero, List.set_cons_succ]
    iterate 5 (refine rv_det (by kernel_rfl) rfl (by intro w hG hH; have hc0 := KB.cell hG (fun x => x) (d3); go_simp; first | done | with_reducible rfl) ?_; simp only [Act.put, List.setIfInBounds_toArray, List.set_cons_zero, List.set_cons_succ])
    refine rv_nil (fun w hG hH => ?_)
    have K := Lib.hid (HK.out.1.trans hG)
    clear hG hH d0 d1 d2 d3 d4 e0 hcl
    go_wp2_with fail
    go_ret
    exact ⟨rfl, K.out⟩
  · -- 28
    obtain ⟨q, hM1, hq, hqN, hch, hpos, hc⟩ := HC1.out (by decide)
    obtain rfl := hM1
    obtain ⟨lb, lo, rfl, hcl⟩ := HI.out 0 (by decide)
    rw [hq, Nat.add_zero] at hcl
    have hcl := HK.out.1.cell (p := ⟨lb, lo, none⟩) (fun x => x) hcl
    have hz := HSZ.out q 6 hqN
    have hch := hch 6
    have hpos := hpos 6
    have CH := Lib.hid (fun (W : World) (hk : KB F0 w0 W) => hc 6 W (by decide) hk)
    generalize Ex ts q 6 = C at hz hch CH hpos
    unfold TxtCall at CH
    clear hc hq hqN
    have hr3 : ⟨#[42]⟩ ++ C = r := by rw [HR.out]; show _ = _ ++ chE _ _ 0 6; rw [hch]
    have z1 : ¬ (9223372036854775807 < 1 + C.size) := by omega
    clear hz hch hpos
    have HW2 : Hid (W2 = W1.alloc (.cells #[.int .u8 28, .int .i64 at_, .int .i64 m, .string s, .slice (some ⟨lb, lo, none⟩) 1 lc] 44)) := Lib.hid HW.out.1
    go_enter Tryz.func72, Tryz.ntmps72
    go_wp2_with fail
    rw [← HW.out.2, ← HW2.out]
    clear c0 c1 c2 c3 c4 HW2
    have e0 : W2.cell? ⟨w0.heap.size, 0, none⟩ = some (.slice (some ⟨b, off, none⟩) N cap) := blk_cell HK.out.2.1 0
    have d0 : W2.cell? ⟨w0.heap.size + 1, 0, none⟩ = some (.int .u8 28) := blk_cell HK.out.2.2 0
    have d1 : W2.cell? ⟨w0.heap.size + 1, 1, none⟩ = some (.int .i64 at_) := blk_cell HK.out.2.2 1
    have d2 : W2.cell? ⟨w0.heap.size + 1, 2, none⟩ = some (.int .i64 m) := blk_cell HK.out.2.2 2
    have d3 : W2.cell? ⟨w0.heap.size + 1, 3, none⟩ = some (.string s) := blk_cell HK.out.2.2 3
    have d4 : W2.cell? ⟨w0.heap.size + 1, 4, none⟩ = some (.slice (some ⟨lb, lo, none⟩) 1 lc) := blk_cell HK.out.2.2 4
    refine wp_region_rv 8 GK (kindW [(5, (fun v => v = .string C), (fun _ _ => True))]) (by kernel_rfl) (by kernel_rfl) (kb_trans _) (kb_refl _) (kb_start _ _) (kindW_mono _ (by intro p hp; simp only [List.mem_cons, List.not_mem_nil, or_false] at hp; (subst hp; exact lasts_true))) ?_
    simp only [List.take_succ_cons, List.take_zero, List.drop_succ_cons, List.drop_zero]
    iterate 5 (refine rv_det (by kernel_rfl) rfl (by intro w hG hH; have hc0 := KB.cell hG (fun x => x) (e0); have hc1 := KB.cell hG (fun x => x) (d4); have hc2 := KB.cell hG (fun x => x) (hcl); go_simp; first | done | with_reducible rfl) ?_; simp only [Act.put, List.setIfInBounds_toArray, List.set_cons_zero, List.set_cons_succ])
    refine rv_rel (by kernel_rfl) rfl ⟨_, rfl⟩ (by
      intro w hG hH
      refine opVal_call (by go_simp; first | done | exact ⟨⟨rfl, rfl⟩, rfl⟩) ?_
      refine (CH.out _ (HK.out.1.trans hG)).mono ?_
      rintro e w' ⟨rfl, hq⟩
      exact ⟨_, rfl, rfl, by first | (obtain ⟨nq, rfl⟩ := hq; exact (KB.refl _ _).drewN _) | (subst hq; exact KB.refl _ _) | exact hq, trivial⟩) ?_
    rintro v rfl
    simp only [Act.put, List.setIfInBounds_toArray, List.set_cons_zero, List.set_cons_succ]
    iterate 2 (refine rv_det (by kernel_rfl) rfl (by intro w hG hH; go_simp; first | done | with_reducible rfl) ?_; simp only [Act.put, List.setIfInBounds_toArray, List.set_cons_zero, List.set_cons_succ])
    refine rv_nil (fun w hG hH => ?_)
    have K := Lib.hid (HK.out.1.trans hG)
    clear hG hH d0 d1 d2 d3 d4 e0 hcl
    go_wp2_with fail
    go_ret
    exact ⟨rfl, K.out⟩
  · -- 29
    obtain ⟨q, hM1, hq, hqN, hch, hpos, hc⟩ := HC1.out (by decide)
    obtain rfl := hM1
    obtain ⟨lb, lo, rfl, hcl⟩ := HI.out 0 (by decide)
    rw [hq, Nat.add_zero] at hcl
    have hcl := HK.out.1.cell (p := ⟨lb, lo, none⟩) (fun x => x) hcl
    have hz := HSZ.out q 6 hqN
    have hch := hch 6
    have hpos := hpos 6
    have CH := Lib.hid (fun (W : World) (hk : KB F0 w0 W) => hc 6 W (by decide) hk)
    generalize Ex ts q 6 = C at hz hch CH hpos
    unfold TxtCall at CH
    clear hc hq hqN
    have hr2 : r = ampB ByteArray.empty (m == 1) C := by rw [HR.out]; show ampB _ _ (chE _ _ 0 6) = _; rw [hch]
    unfold ampB at hr2
    rw [if_pos (show ByteArray.empty.size = 0 from rfl)] at hr2
    obtain ⟨mb, hmb⟩ : ∃ mb, (m == 1) = mb := ⟨_, rfl⟩
    rw [hmb] at hr2
    have z1 : ¬ (9223372036854775807 < 5 + C.size) := by omega
    have z2 : ¬ (9223372036854775807 < 2 + C.size) := by omega
    have z3 : ¬ (9223372036854775807 < 1 + C.size) := by omega
    cases mb
    case true =>
      have HRR : Hid (r = ⟨#[38, 109, 117, 116, 32]⟩ ++ C) := Lib.hid (by rw [hr2, if_pos rfl])
      clear hr2 hz hch HR
      have HW2 : Hid (W2 = W1.alloc (.cells #[.int .u8 29, .int .i64 at_, .int .i64 m, .string s, .slice (some ⟨lb, lo, none⟩) 1 lc] 44)) := Lib.hid HW.out.1
      go_enter Tryz.func72, Tryz.ntmps72
      go_wp2_with fail
      rw [← HW.out.2, ← HW2.out]
      clear c0 c1 c2 c3 c4 HW2
      have e0 : W2.cell? ⟨w0.heap.size, 0, none⟩ = some (.slice (some ⟨b, off, none⟩) N cap) := blk_cell HK.out.2.1 0
      have d0 : W2.cell? ⟨w0.heap.size + 1, 0, none⟩ = some (.int .u8 29) := blk_cell HK.out.2.2 0
      have d1 : W2.cell? ⟨w0.heap.size + 1, 1, none⟩ = some (.int .i64 at_) := blk_cell HK.out.2.2 1
      have d2 : W2.cell? ⟨w0.heap.size + 1, 2, none⟩ = some (.int .i64 m) := blk_cell HK.out.2.2 2
      have d3 : W2.cell? ⟨w0.heap.size + 1, 3, none⟩ = some (.string s) := blk_cell HK.out.2.2 3
      have d4 : W2.cell? ⟨w0.heap.size + 1, 4, none⟩ = some (.slice (some ⟨lb, lo, none⟩) 1 lc) := blk_cell HK.out.2.2 4
      refine wp_region_rv 7 GK (kindW [(5, (fun v => v = .string C), (fun _ _ => True))]) (by kernel_rfl) (by kernel_rfl) (kb_trans _) (kb_refl _) (kb_start _ _) (kindW_mono _ (by intro p hp; simp only [List.mem_cons, List.not_mem_nil, or_false] at hp; (subst hp; exact lasts_true))) ?_
      simp only [List.take_succ_cons, List.take_zero, List.drop_succ_cons, List.drop_zero]
      iterate 5 (refine rv_det (by kernel_rfl) rfl (by intro w hG hH; have hc0 := KB.cell hG (fun x => x) (e0); have hc1 := KB.cell hG (fun x => x) (d4); have hc2 := KB.cell hG (fun x => x) (hcl); go_simp; first | done | with_reducible rfl) ?_; simp only [Act.put, List.setIfInBounds_toArray, List.set_cons_zero, List.set_cons_succ])
      refine rv_rel (by kernel_rfl) rfl ⟨_, rfl⟩ (by
        intro w hG hH
        refine opVal_call (by go_simp; first | done | exact ⟨⟨rfl, rfl⟩, rfl⟩) ?_
        refine (CH.out _ (HK.out.1.trans hG)).mono ?_
        rintro e w' ⟨rfl, hq⟩
        exact ⟨_, rfl, rfl, by first | (obtain ⟨nq, rfl⟩ := hq; exact (KB.refl _ _).drewN _) | (subst hq; exact KB.refl _ _) | exact hq, trivial⟩) ?_
      rintro v rfl
      simp only [Act.put, List.setIfInBounds_toArray, List.set_cons_zero, List.set_cons_succ]
      refine rv_det (by kernel_rfl) rfl (by intro w hG hH; go_simp; first | done | with_reducible rfl) ?_
      simp only [Act.put, List.setIfInBounds_toArray, List.set_cons_zero, List.set_cons_succ]
      refine rv_nil (fun w hG hH => ?_)
      have d2 := hG.cell (p := ⟨w0.heap.size + 1, 2, none⟩) (fun x => x) d2
      have K := Lib.hid (HK.out.1.trans hG)
      clear hG hH d0 d1 d3 d4 e0 hcl
      go_wp2_with fail
      go_ret
      exact ⟨ret_eq (by rw [HRR.out]; rfl), K.out⟩
    case false =>
      rw [if_neg (by decide)] at hr2
      have hb0 : hasAmp C = (((C[0]'hpos).toNat : Int) == 38) := by rw [hasAmp_at hpos, byteAt_eq C 0 hpos]
      rw [hb0] at hr2
      obtain ⟨q0, hq0⟩ : ∃ q0, (((C[0]'hpos).toNat : Int) == 38) = q0 := ⟨_, rfl⟩
      rw [hq0] at hr2
      have HRR := Lib.hid hr2
      clear hr2 hz hch hb0 HR
      cases q0
      all_goals
        have HW2 : Hid (W2 = W1.alloc (.cells #[.int .u8 29, .int .i64 at_, .int .i64 m, .string s, .slice (some ⟨lb, lo, none⟩) 1 lc] 44)) := Lib.hid HW.out.1
        go_enter Tryz.func72, Tryz.ntmps72
        go_wp2_with fail
        rw [← HW.out.2, ← HW2.out]
        clear c0 c1 c2 c3 c4 HW2
        have e0 : W2.cell? ⟨w0.heap.size, 0, none⟩ = some (.slice (some ⟨b, off, none⟩) N cap) := blk_cell HK.out.2.1 0
        have d0 : W2.cell? ⟨w0.heap.size + 1, 0, none⟩ = some (.int .u8 29) := blk_cell HK.out.2.2 0
        have d1 : W2.cell? ⟨w0.heap.size + 1, 1, none⟩ = some (.int .i64 at_) := blk_cell HK.out.2.2 1
        have d2 : W2.cell? ⟨w0.heap.size + 1, 2, none⟩ = some (.int .i64 m) := blk_cell HK.out.2.2 2
        have d3 : W2.cell? ⟨w0.heap.size + 1, 3, none⟩ = some (.string s) := blk_cell HK.out.2.2 3
        have d4 : W2.cell? ⟨w0.heap.size + 1, 4, none⟩ = some (.slice (some ⟨lb, lo, none⟩) 1 lc) := blk_cell HK.out.2.2 4
        refine wp_region_rv 7 GK (kindW [(5, (fun v => v = .string C), (fun _ _ => True))]) (by kernel_rfl) (by kernel_rfl) (kb_trans _) (kb_refl _) (kb_start _ _) (kindW_mono _ (by intro p hp; simp only [List.mem_cons, List.not_mem_nil, or_false] at hp; (subst hp; exact lasts_true))) ?_
        simp only [List.take_succ_cons, List.take_zero, List.drop_succ_cons, List.drop_zero]
        iterate 5 (refine rv_det (by kernel_rfl) rfl (by intro w hG hH; have hc0 := KB.cell hG (fun x => x) (e0); have hc1 := KB.cell hG (fun x => x) (d4); have hc2 := KB.cell hG (fun x => x) (hcl); go_simp; first | done | with_reducible rfl) ?_; simp only [Act.put, List.setIfInBounds_toArray, List.set_cons_zero, List.set_cons_succ])
        refine rv_rel (by kernel_rfl) rfl ⟨_, rfl⟩ (by
          intro w hG hH
          refine opVal_call (by go_simp; first | done | exact ⟨⟨rfl, rfl⟩, rfl⟩) ?_
          refine (CH.out _ (HK.out.1.trans hG)).mono ?_
          rintro e w' ⟨rfl, hq⟩
          exact ⟨_, rfl, rfl, by first | (obtain ⟨nq, rfl⟩ := hq; exact (KB.refl _ _).drewN _) | (subst hq; exact KB.refl _ _) | exact hq, trivial⟩) ?_
        rintro v rfl
        simp only [Act.put, List.setIfInBounds_toArray, List.set_cons_zero, List.set_cons_succ]
        refine rv_det (by kernel_rfl) rfl (by intro w hG hH; go_simp; first | done | with_reducible rfl) ?_
        simp only [Act.put, List.setIfInBounds_toArray, List.set_cons_zero, List.set_cons_succ]
        refine rv_nil (fun w hG hH => ?_)
        have d2 := hG.cell (p := ⟨w0.heap.size + 1, 2, none⟩) (fun x => x) d2
        have K := Lib.hid (HK.out.1.trans hG)
        clear hG hH d0 d1 d3 d4 e0 hcl
        go_wp2_with fail
        go_ret
        exact ⟨ret_eq (by rw [HRR.out]; rfl), K.out⟩
  · -- 30
    obtain ⟨q, hM1, hq, hqN, hch, hpos, hc⟩ := HC1.out (by decide)
    obtain rfl := hM1
    obtain ⟨lb, lo, rfl, hcl⟩ := HI.out 0 (by decide)
    rw [hq, Nat.add_zero] at hcl
    have hcl := HK.out.1.cell (p := ⟨lb, lo, none⟩) (fun x => x) hcl
    have hz := HSZ.out q 6 hqN
    have hch := hch 6
    have hpos := hpos 6
    have CH := Lib.hid (fun (W : World) (hk : KB F0 w0 W) => hc 6 W (by decide) hk)
    generalize Ex ts q 6 = C at hz hch CH hpos
    unfold TxtCall at CH
    clear hc hq hqN
    have hr3 : ⟨#[45]⟩ ++ C = r := by rw [HR.out]; show _ = _ ++ chE _ _ 0 6; rw [hch]
    have z1 : ¬ (9223372036854775807 < 1 + C.size) := by omega
    clear hz hch hpos
    have HW2 : Hid (W2 = W1.alloc (.cells #[.int .u8 30, .int .i64 at_, .int .i64 m, .string s, .slice (some ⟨lb, lo, none⟩) 1 lc] 44)) := Lib.hid HW.out.1
    go_enter Tryz.func72, Tryz.ntmps72
    go_wp2_with fail
    rw [← HW.out.2, ← HW2.out]
    clear c0 c1 c2 c3 c4 HW2
    have e0 : W2.cell? ⟨w0.heap.size, 0, none⟩ = some (.slice (some ⟨b, off, none⟩) N cap) := blk_cell HK.out.2.1 0
    have d0 : W2.cell? ⟨w0.heap.size + 1, 0, none⟩ = some (.int .u8 30) := blk_cell HK.out.2.2 0
    have d1 : W2.cell? ⟨w0.heap.size + 1, 1, none⟩ = some (.int .i64 at_) := blk_cell HK.out.2.2 1
    have d2 : W2.cell? ⟨w0.heap.size + 1, 2, none⟩ = some (.int .i64 m) := blk_cell HK.out.2.2 2
    have d3 : W2.cell? ⟨w0.heap.size + 1, 3, none⟩ = some (.string s) := blk_cell HK.out.2.2 3
    have d4 : W2.cell? ⟨w0.heap.size + 1, 4, none⟩ = some (.slice (some ⟨lb, lo, none⟩) 1 lc) := blk_cell HK.out.2.2 4
    refine wp_region_rv 8 GK (kindW [(5, (fun v => v = .string C), (fun _ _ => True))]) (by kernel_rfl) (by kernel_rfl) (kb_trans _) (kb_refl _) (kb_start _ _) (kindW_mono _ (by intro p hp; simp only [List.mem_cons, List.not_mem_nil, or_false] at hp; (subst hp; exact lasts_true))) ?_
    simp only [List.take_succ_cons, List.take_zero, List.drop_succ_cons, List.drop_zero]
    iterate 5 (refine rv_det (by kernel_rfl) rfl (by intro w hG hH; have hc0 := KB.cell hG (fun x => x) (e0); have hc1 := KB.cell hG (fun x => x) (d4); have hc2 := KB.cell hG (fun x => x) (hcl); go_simp; first | done | with_reducible rfl) ?_; simp only [Act.put, List.setIfInBounds_toArray, List.set_cons_zero, List.set_cons_succ])
    refine rv_rel (by kernel_rfl) rfl ⟨_, rfl⟩ (by
      intro w hG hH
      refine opVal_call (by go_simp; first | done | exact ⟨⟨rfl, rfl⟩, rfl⟩) ?_
      refine (CH.out _ (HK.out.1.trans hG)).mono ?_
      rintro e w' ⟨rfl, hq⟩
      exact ⟨_, rfl, rfl, by first | (obtain ⟨nq, rfl⟩ := hq; exact (KB.refl _ _).drewN _) | (subst hq; exact KB.refl _ _) | exact hq, trivial⟩) ?_
    rintro v rfl
    simp only [Act.put, List.setIfInBounds_toArray, List.set_cons_zero, List.set_cons_succ]
    iterate 2 (refine rv_det (by kernel_rfl) rfl (by intro w hG hH; go_simp; first | done | with_reducible rfl) ?_; simp only [Act.put, List.setIfInBounds_toArray, List.set_cons_zero, List.set_cons_succ])
    refine rv_nil (fun w hG hH => ?_)
    have K := Lib.hid (HK.out.1.trans hG)
    clear hG hH d0 d1 d2 d3 d4 e0 hcl
    go_wp2_with fail
    go_ret
    exact ⟨rfl, K.out⟩
  · -- 31
    obtain ⟨q, hM1, hq, hqN, hch, hpos, hc⟩ := HC1.out (by decide)
    obtain rfl := hM1
    obtain ⟨lb, lo, rfl, hcl⟩ := HI.out 0 (by decide)
    rw [hq, Nat.add_zero] at hcl
    have hcl := HK.out.1.cell (p := ⟨lb, lo, none⟩) (fun x => x) hcl
    have hz := HSZ.out q 6 hqN
    have hch := hch 6
    have hpos := hpos 6
    have CH := Lib.hid (fun (W : World) (hk : KB F0 w0 W) => hc 6 W (by decide) hk)
    generalize Ex ts q 6 = C at hz hch CH hpos
    unfold TxtCall at CH
    clear hc hq hqN
    have hr3 : ⟨#[33]⟩ ++ C = r := by rw [HR.out]; show _ = _ ++ chE _ _ 0 6; rw [hch]
    have z1 : ¬ (9223372036854775807 < 1 + C.size) := by omega
    clear hz hch hpos
    have HW2 : Hid (W2 = W1.alloc (.cells #[.int .u8 31, .int .i64 at_, .int .i64 m, .string s, .slice (some ⟨lb, lo, none⟩) 1 lc] 44)) := Lib.hid HW.out.1
    go_enter Tryz.func72, Tryz.ntmps72
    go_wp2_with fail
    rw [← HW.out.2, ← HW2.out]
    clear c0 c1 c2 c3 c4 HW2
    have e0 : W2.cell? ⟨w0.heap.size, 0, none⟩ = some (.slice (some ⟨b, off, none⟩) N cap) := blk_cell HK.out.2.1 0
    have d0 : W2.cell? ⟨w0.heap.size + 1, 0, none⟩ = some (.int .u8 31) := blk_cell HK.out.2.2 0
    have d1 : W2.cell? ⟨w0.heap.size + 1, 1, none⟩ = some (.int .i64 at_) := blk_cell HK.out.2.2 1
    have d2 : W2.cell? ⟨w0.heap.size + 1, 2, none⟩ = some (.int .i64 m) := blk_cell HK.out.2.2 2
    have d3 : W2.cell? ⟨w0.heap.size + 1, 3, none⟩ = some (.string s) := blk_cell HK.out.2.2 3
    have d4 : W2.cell? ⟨w0.heap.size + 1, 4, none⟩ = some (.slice (some ⟨lb, lo, none⟩) 1 lc) := blk_cell HK.out.2.2 4
    refine wp_region_rv 8 GK (kindW [(5, (fun v => v = .string C), (fun _ _ => True))]) (by kernel_rfl) (by kernel_rfl) (kb_trans _) (kb_refl _) (kb_start _ _) (kindW_mono _ (by intro p hp; simp only [List.mem_cons, List.not_mem_nil, or_false] at hp; (subst hp; exact lasts_true))) ?_
    simp only [List.take_succ_cons, List.take_zero, List.drop_succ_cons, List.drop_zero]
    iterate 5 (refine rv_det (by kernel_rfl) rfl (by intro w hG hH; have hc0 := KB.cell hG (fun x => x) (e0); have hc1 := KB.cell hG (fun x => x) (d4); have hc2 := KB.cell hG (fun x => x) (hcl); go_simp; first | done | with_reducible rfl) ?_; simp only [Act.put, List.setIfInBounds_toArray, List.set_cons_zero, List.set_cons_succ])
    refine rv_rel (by kernel_rfl) rfl ⟨_, rfl⟩ (by
      intro w hG hH
      refine opVal_call (by go_simp; first | done | exact ⟨⟨rfl, rfl⟩, rfl⟩) ?_
      refine (CH.out _ (HK.out.1.trans hG)).mono ?_
      rintro e w' ⟨rfl, hq⟩
      exact ⟨_, rfl, rfl, by first | (obtain ⟨nq, rfl⟩ := hq; exact (KB.refl _ _).drewN _) | (subst hq; exact KB.refl _ _) | exact hq, trivial⟩) ?_
    rintro v rfl
    simp only [Act.put, List.setIfInBounds_toArray, List.set_cons_zero, List.set_cons_succ]
    iterate 2 (refine rv_det (by kernel_rfl) rfl (by intro w hG hH; go_simp; first | done | with_reducible rfl) ?_; simp only [Act.put, List.setIfInBounds_toArray, List.set_cons_zero, List.set_cons_succ])
    refine rv_nil (fun w hG hH => ?_)
    have K := Lib.hid (HK.out.1.trans hG)
    clear hG hH d0 d1 d2 d3 d4 e0 hcl
    go_wp2_with fail
    go_ret
    exact ⟨rfl, K.out⟩
  · -- 32
    obtain ⟨q, q2, hM1, hq, hq2, hqN, hqN2, hch, hch2, hc, hc2⟩ := HC2.out rfl
    obtain rfl := hM1
    obtain ⟨lb, lo, rfl, hcl⟩ := HI.out 0 (by decide)
    obtain ⟨lb2, lo2, e3, hcl2⟩ := HI.out 1 (by decide)
    simp only [Option.some.injEq, Addr.mk.injEq, and_true] at e3
    obtain ⟨rfl, rfl⟩ := e3
    rw [hq, Nat.add_zero] at hcl
    rw [hq2] at hcl2
    have hcl := HK.out.1.cell (p := ⟨lb, lo, none⟩) (fun x => x) hcl
    have hcl2 := HK.out.1.cell (p := ⟨lb, lo + 1, none⟩) (fun x => x) hcl2
    have ho5 := HOW.out.2 rfl
    have hr0 : r = chE (Ex ts) ⟨32, at_, m, s, l⟩ 0 (if lvP 32 s = 3 then 4 else lvP 32 s) ++ ⟨#[32]⟩ ++ s ++ ⟨#[32]⟩ ++ chE (Ex ts) ⟨32, at_, m, s, l⟩ 1 (lvP 32 s + 1) := HR.out
    rw [hch, hch2] at hr0
    have LV : Hid (∀ W, Calls Tryz.prog 23 #[.agg #[.int .u8 32, .int .i64 at_, .int .i64 m, .string s, .slice (some ⟨lb, lo, none⟩) 2 lc]] W fun e w' => e = .returned (.int .i64 (lvP 32 s : Nat)) ∧ KB F0 W w') := Lib.hid LV.out
    generalize lvP 32 s = own at hr0 ho5 LV
    have hss := HTX.out.2.1
    clear HOW HR hch hch2 hq hq2
    by_cases h3 : own = 3
    · obtain rfl := h3
      rw [if_pos rfl] at hr0
      have hz := HSZ.out q 4 hqN
      have hz2 := HSZ.out q2 4 hqN2
      have CH := Lib.hid (fun (W : World) (hk : KB F0 w0 W) => hc 4 W (by decide) hk)
      have C2 := Lib.hid (fun (W : World) (hk : KB F0 w0 W) => hc2 4 W (by decide) hk)
      unfold TxtCall at CH C2
      generalize Ex ts q 4 = C at hz hr0 CH
      have hr2 : r = C ++ ⟨#[32]⟩ ++ s ++ ⟨#[32]⟩ ++ Ex ts q2 4 := hr0
      clear hr0
      generalize Ex ts q2 4 = D at hz2 hr2 C2
      obtain ⟨A1, hA1⟩ : ∃ Z_ : ByteArray, C ++ ⟨#[32]⟩ = Z_ := ⟨_, rfl⟩
      obtain ⟨A2, hA2⟩ : ∃ Z_ : ByteArray, A1 ++ s = Z_ := ⟨_, rfl⟩
      obtain ⟨A3, hA3⟩ : ∃ Z_ : ByteArray, A2 ++ ⟨#[32]⟩ = Z_ := ⟨_, rfl⟩
      have s1 : A1.size = C.size + 1 := by rw [← hA1, ByteArray.size_append]; rfl
      have s2 : A2.size = A1.size + s.size := by rw [← hA2, ByteArray.size_append]
      have s3 : A3.size = A2.size + 1 := by rw [← hA3, ByteArray.size_append]; rfl
      rw [hA1, hA2, hA3] at hr2
      have hr3 := hr2.symm
      have z1 : ¬ (9223372036854775807 < C.size + 1) := by omega
      have z2 : ¬ (9223372036854775807 < A1.size + s.size) := by omega
      have z3 : ¬ (9223372036854775807 < A2.size + 1) := by omega
      have z4 : ¬ (9223372036854775807 < A3.size + D.size) := by omega
      have LV : Hid (∀ W, Calls Tryz.prog 23 #[.agg #[.int .u8 32, .int .i64 at_, .int .i64 m, .string s, .slice (some ⟨lb, lo, none⟩) 2 lc]] W fun e w' => e = .returned (.int .i64 3) ∧ KB F0 W w') := Lib.hid LV.out
      have CH : Hid (∀ W, KB F0 w0 W → Calls Tryz.prog 47 #[.agg #[.slice (some ⟨b, off, none⟩) N cap], .int .i64 q, .int .i64 4] W fun e w' => e = .returned (.string C) ∧ KB F0 W w') := Lib.hid CH.out
      have C2 : Hid (∀ W, KB F0 w0 W → Calls Tryz.prog 47 #[.agg #[.slice (some ⟨b, off, none⟩) N cap], .int .i64 q2, .int .i64 4] W fun e w' => e = .returned (.string D) ∧ KB F0 W w') := Lib.hid C2.out
      clear hr2 hss s1 s2 s3 hz hz2 hc hc2 hqN hqN2 ho5
      have HW2 : Hid (W2 = W1.alloc (.cells #[.int .u8 32, .int .i64 at_, .int .i64 m, .string s, .slice (some ⟨lb, lo, none⟩) 2 lc] 44)) := Lib.hid HW.out.1
      go_enter Tryz.func72, Tryz.ntmps72
      go_wp2_with fail
      rw [← HW.out.2, ← HW2.out]
      clear c0 c1 c2 c3 c4 HW2
      have e0 : W2.cell? ⟨w0.heap.size, 0, none⟩ = some (.slice (some ⟨b, off, none⟩) N cap) := blk_cell HK.out.2.1 0
      have d0 : W2.cell? ⟨w0.heap.size + 1, 0, none⟩ = some (.int .u8 32) := blk_cell HK.out.2.2 0
      have d1 : W2.cell? ⟨w0.heap.size + 1, 1, none⟩ = some (.int .i64 at_) := blk_cell HK.out.2.2 1
      have d2 : W2.cell? ⟨w0.heap.size + 1, 2, none⟩ = some (.int .i64 m) := blk_cell HK.out.2.2 2
      have d3 : W2.cell? ⟨w0.heap.size + 1, 3, none⟩ = some (.string s) := blk_cell HK.out.2.2 3
      have d4 : W2.cell? ⟨w0.heap.size + 1, 4, none⟩ = some (.slice (some ⟨lb, lo, none⟩) 2 lc) := blk_cell HK.out.2.2 4
      refine (LV.out _).mono ?_
      rintro e w3 ⟨rfl, k3⟩
      have e0 := k3.cell (p := ⟨w0.heap.size, 0, none⟩) (fun x => x) e0
      have d3 := k3.cell (p := ⟨w0.heap.size + 1, 3, none⟩) (fun x => x) d3
      have d4 := k3.cell (p := ⟨w0.heap.size + 1, 4, none⟩) (fun x => x) d4
      have hcl := k3.cell (p := ⟨lb, lo, none⟩) (fun x => x) hcl
      have hcl2 := k3.cell (p := ⟨lb, lo + 1, none⟩) (fun x => x) hcl2
      have K3 := Lib.hid (HK.out.1.trans k3)
      clear k3 d0 d1 d2 LV
      go_wp2_with fail
      refine wp_region_rv 22 GK (kindW [(6, (fun v => v = .string C), (fun _ _ => True)), (19, (fun v => v = .string D), (fun _ _ => True))]) (by kernel_rfl) (by kernel_rfl) (kb_trans _) (kb_refl _) (kb_start _ _) (kindW_mono _ (by intro p hp; simp only [List.mem_cons, List.not_mem_nil, or_false] at hp; (rcases hp with rfl | rfl <;> exact lasts_true))) ?_
      simp only [List.take_succ_cons, List.take_zero, List.drop_succ_cons, List.drop_zero]
      iterate 6 (refine rv_det (by kernel_rfl) rfl (by intro w hG hH; have hc0 := KB.cell hG (fun x => x) (e0); have hc1 := KB.cell hG (fun x => x) (d4); have hc2 := KB.cell hG (fun x => x) (hcl); go_simp; first | done | with_reducible rfl) ?_; simp only [Act.put, List.setIfInBounds_toArray, List.set_cons_zero, List.set_cons_succ])
      refine rv_rel (by kernel_rfl) rfl ⟨_, rfl⟩ (by
        intro w hG hH
        refine opVal_call (by go_simp; first | done | exact ⟨⟨rfl, rfl⟩, rfl⟩) ?_
        refine (CH.out _ (K3.out.trans hG)).mono ?_
        rintro e w' ⟨rfl, hq⟩
        exact ⟨_, rfl, rfl, by first | (obtain ⟨nq, rfl⟩ := hq; exact (KB.refl _ _).drewN _) | (subst hq; exact KB.refl _ _) | exact hq, trivial⟩) ?_
      rintro v rfl
      simp only [Act.put, List.setIfInBounds_toArray, List.set_cons_zero, List.set_cons_succ]
      iterate 12 (refine rv_det (by kernel_rfl) rfl (by intro w hG hH; have hc0 := KB.cell hG (fun x => x) (d3); have hc1 := KB.cell hG (fun x => x) (d4); have hc2 := KB.cell hG (fun x => x) (e0); have hc3 := KB.cell hG (fun x => x) (hcl2); go_simp; first | done | with_reducible rfl) ?_; simp only [Act.put, List.setIfInBounds_toArray, List.set_cons_zero, List.set_cons_succ])
      refine rv_rel (by kernel_rfl) rfl ⟨_, rfl⟩ (by
        intro w hG hH
        refine opVal_call (by go_simp; first | done | exact ⟨⟨rfl, rfl⟩, rfl⟩) ?_
        refine (C2.out _ (K3.out.trans hG)).mono ?_
        rintro e w' ⟨rfl, hq⟩
        exact ⟨_, rfl, rfl, by first | (obtain ⟨nq, rfl⟩ := hq; exact (KB.refl _ _).drewN _) | (subst hq; exact KB.refl _ _) | exact hq, trivial⟩) ?_
      rintro v rfl
      simp only [Act.put, List.setIfInBounds_toArray, List.set_cons_zero, List.set_cons_succ]
      iterate 2 (refine rv_det (by kernel_rfl) rfl (by intro w hG hH; go_simp; first | done | with_reducible rfl) ?_; simp only [Act.put, List.setIfInBounds_toArray, List.set_cons_zero, List.set_cons_succ])
      refine rv_nil (fun w hG hH => ?_)
      have K := Lib.hid (K3.out.trans hG)
      clear hG hH d3 d4 e0 hcl hcl2
      go_wp2_with fail
      go_ret
      exact ⟨rfl, K.out⟩
    · rw [if_neg h3] at hr0
      have t3 : ((own : Int) == 3) = false := by simp; omega
      have hz := HSZ.out q own hqN
      have hz2 := HSZ.out q2 (own + 1) hqN2
      have CH := Lib.hid (fun (W : World) (hk : KB F0 w0 W) => hc own W (by omega) hk)
      have C2 := Lib.hid (fun (W : World) (hk : KB F0 w0 W) => hc2 (own + 1) W (by omega) hk)
      unfold TxtCall at CH C2
      generalize Ex ts q own = C at hz hr0 CH
      have hr2 : r = C ++ ⟨#[32]⟩ ++ s ++ ⟨#[32]⟩ ++ Ex ts q2 (own + 1) := hr0
      clear hr0
      generalize Ex ts q2 (own + 1) = D at hz2 hr2 C2
      obtain ⟨A1, hA1⟩ : ∃ Z_ : ByteArray, C ++ ⟨#[32]⟩ = Z_ := ⟨_, rfl⟩
      obtain ⟨A2, hA2⟩ : ∃ Z_ : ByteArray, A1 ++ s = Z_ := ⟨_, rfl⟩
      obtain ⟨A3, hA3⟩ : ∃ Z_ : ByteArray, A2 ++ ⟨#[32]⟩ = Z_ := ⟨_, rfl⟩
      have s1 : A1.size = C.size + 1 := by rw [← hA1, ByteArray.size_append]; rfl
      have s2 : A2.size = A1.size + s.size := by rw [← hA2, ByteArray.size_append]
      have s3 : A3.size = A2.size + 1 := by rw [← hA3, ByteArray.size_append]; rfl
      rw [hA1, hA2, hA3] at hr2
      have hr3 := hr2.symm
      have z1 : ¬ (9223372036854775807 < C.size + 1) := by omega
      have z2 : ¬ (9223372036854775807 < A1.size + s.size) := by omega
      have z3 : ¬ (9223372036854775807 < A2.size + 1) := by omega
      have z4 : ¬ (9223372036854775807 < A3.size + D.size) := by omega
      have w1 : IntKind.i64.wrap ((own : Int) + 1) = ((own + 1 : Nat) : Int) := by rw [w64 (by omega) (by omega)]; omega
      clear hr2 hss s1 s2 s3 hz hz2 hc hc2 hqN hqN2 ho5 h3
      have HW2 : Hid (W2 = W1.alloc (.cells #[.int .u8 32, .int .i64 at_, .int .i64 m, .string s, .slice (some ⟨lb, lo, none⟩) 2 lc] 44)) := Lib.hid HW.out.1
      go_enter Tryz.func72, Tryz.ntmps72
      go_wp2_with fail
      rw [← HW.out.2, ← HW2.out]
      clear c0 c1 c2 c3 c4 HW2
      have e0 : W2.cell? ⟨w0.heap.size, 0, none⟩ = some (.slice (some ⟨b, off, none⟩) N cap) := blk_cell HK.out.2.1 0
      have d0 : W2.cell? ⟨w0.heap.size + 1, 0, none⟩ = some (.int .u8 32) := blk_cell HK.out.2.2 0
      have d1 : W2.cell? ⟨w0.heap.size + 1, 1, none⟩ = some (.int .i64 at_) := blk_cell HK.out.2.2 1
      have d2 : W2.cell? ⟨w0.heap.size + 1, 2, none⟩ = some (.int .i64 m) := blk_cell HK.out.2.2 2
      have d3 : W2.cell? ⟨w0.heap.size + 1, 3, none⟩ = some (.string s) := blk_cell HK.out.2.2 3
      have d4 : W2.cell? ⟨w0.heap.size + 1, 4, none⟩ = some (.slice (some ⟨lb, lo, none⟩) 2 lc) := blk_cell HK.out.2.2 4
      refine (LV.out _).mono ?_
      rintro e w3 ⟨rfl, k3⟩
      have e0 := k3.cell (p := ⟨w0.heap.size, 0, none⟩) (fun x => x) e0
      have d3 := k3.cell (p := ⟨w0.heap.size + 1, 3, none⟩) (fun x => x) d3
      have d4 := k3.cell (p := ⟨w0.heap.size + 1, 4, none⟩) (fun x => x) d4
      have hcl := k3.cell (p := ⟨lb, lo, none⟩) (fun x => x) hcl
      have hcl2 := k3.cell (p := ⟨lb, lo + 1, none⟩) (fun x => x) hcl2
      have K3 := Lib.hid (HK.out.1.trans k3)
      clear k3 d0 d1 d2 LV
      go_wp2_with fail
      refine wp_region_rv 22 GK (kindW [(6, (fun v => v = .string C), (fun _ _ => True)), (19, (fun v => v = .string D), (fun _ _ => True))]) (by kernel_rfl) (by kernel_rfl) (kb_trans _) (kb_refl _) (kb_start _ _) (kindW_mono _ (by intro p hp; simp only [List.mem_cons, List.not_mem_nil, or_false] at hp; (rcases hp with rfl | rfl <;> exact lasts_true))) ?_
      simp only [List.take_succ_cons, List.take_zero, List.drop_succ_cons, List.drop_zero]
      iterate 6 (refine rv_det (by kernel_rfl) rfl (by intro w hG hH; have hc0 := KB.cell hG (fun x => x) (e0); have hc1 := KB.cell hG (fun x => x) (d4); have hc2 := KB.cell hG (fun x => x) (hcl); go_simp; first | done | with_reducible rfl) ?_; simp only [Act.put, List.setIfInBounds_toArray, List.set_cons_zero, List.set_cons_succ])
      refine rv_rel (by kernel_rfl) rfl ⟨_, rfl⟩ (by
        intro w hG hH
        refine opVal_call (by go_simp; first | done | exact ⟨⟨rfl, rfl⟩, rfl⟩) ?_
        refine (CH.out _ (K3.out.trans hG)).mono ?_
        rintro e w' ⟨rfl, hq⟩
        exact ⟨_, rfl, rfl, by first | (obtain ⟨nq, rfl⟩ := hq; exact (KB.refl _ _).drewN _) | (subst hq; exact KB.refl _ _) | exact hq, trivial⟩) ?_
      rintro v rfl
      simp only [Act.put, List.setIfInBounds_toArray, List.set_cons_zero, List.set_cons_succ]
      iterate 12 (refine rv_det (by kernel_rfl) rfl (by intro w hG hH; have hc0 := KB.cell hG (fun x => x) (d3); have hc1 := KB.cell hG (fun x => x) (d4); have hc2 := KB.cell hG (fun x => x) (e0); have hc3 := KB.cell hG (fun x => x) (hcl2); go_simp; first | done | with_reducible rfl) ?_; simp only [Act.put, List.setIfInBounds_toArray, List.set_cons_zero, List.set_cons_succ])
      refine rv_rel (by kernel_rfl) rfl ⟨_, rfl⟩ (by
        intro w hG hH
        refine opVal_call (by go_simp; first | done | exact ⟨⟨rfl, rfl⟩, rfl⟩) ?_
        refine (C2.out _ (K3.out.trans hG)).mono ?_
        rintro e w' ⟨rfl, hq⟩
        exact ⟨_, rfl, rfl, by first | (obtain ⟨nq, rfl⟩ := hq; exact (KB.refl _ _).drewN _) | (subst hq; exact KB.refl _ _) | exact hq, trivial⟩) ?_
      rintro v rfl
      simp only [Act.put, List.setIfInBounds_toArray, List.set_cons_zero, List.set_cons_succ]
      iterate 2 (refine rv_det (by kernel_rfl) rfl (by intro w hG hH; go_simp; first | done | with_reducible rfl) ?_; simp only [Act.put, List.setIfInBounds_toArray, List.set_cons_zero, List.set_cons_succ])
      refine rv_nil (fun w hG hH => ?_)
      have K := Lib.hid (K3.out.trans hG)
      clear hG hH d3 d4 e0 hcl hcl2
      go_wp2_with fail
      go_ret
      exact ⟨rfl, K.out⟩
  · -- 33
    have hcl := HCL.out rfl
    have hr2 : r = s ++ ⟨#[40]⟩ ++ jnK ⟨#[44, 32]⟩ (fun i => chE (Ex ts) ⟨33, at_, m, s, l⟩ i 1) M ++ ⟨#[41]⟩ := by rw [HR.out, HM.out]; rfl
    have TB := Lib.hid (fun (W : World) (hk : KB F0 w0 W) => rlist_any (.slice (some ⟨b, off, none⟩) N cap) la M lc (fun i => l.getD i 0) (fun i => chE (Ex ts) ⟨33, at_, m, s, l⟩ i 1) W (by have := hcl.1; omega)
      (fun i hi => by
        obtain ⟨lb, lo, e, hc⟩ := HI.out i hi
        exact ⟨lb, lo, e, hk.cell (p := ⟨lb, lo + i, none⟩) (fun x => x) hc⟩)
      (fun i hi W2 hk2 => hcl.2.2 i hi W2 (hk.trans hk2)) (by have := hcl.2.1; omega))
    have hz := hcl.2.1
    unfold TxtCall at TB
    generalize jnK ⟨#[44, 32]⟩ (fun i => chE (Ex ts) ⟨33, at_, m, s, l⟩ i 1) M = C at hr2 TB hz
    have hss := HTX.out.2.1
    obtain ⟨A1, hA1⟩ : ∃ Z_ : ByteArray, s ++ ⟨#[40]⟩ = Z_ := ⟨_, rfl⟩
    obtain ⟨A2, hA2⟩ : ∃ Z_ : ByteArray, A1 ++ C = Z_ := ⟨_, rfl⟩
    have s1 : A1.size = s.size + 1 := by rw [← hA1, ByteArray.size_append]; rfl
    have s2 : A2.size = A1.size + C.size := by rw [← hA2, ByteArray.size_append]
    rw [hA1, hA2] at hr2
    have hr3 := hr2.symm
    have z1 : ¬ (9223372036854775807 < s.size + 1) := by omega
    have z2 : ¬ (9223372036854775807 < A1.size + C.size) := by omega
    have z3 : ¬ (9223372036854775807 < A2.size + 1) := by omega
    clear hr2 hss s1 s2 hz hcl
    have HW2 : Hid (W2 = W1.alloc (.cells #[.int .u8 33, .int .i64 at_, .int .i64 m, .string s, .slice la M lc] 44)) := Lib.hid HW.out.1
    go_enter Tryz.func72, Tryz.ntmps72
    go_wp2_with fail
    rw [← HW.out.2, ← HW2.out]
    clear c0 c1 c2 c3 c4 HW2
    have e0 : W2.cell? ⟨w0.heap.size, 0, none⟩ = some (.slice (some ⟨b, off, none⟩) N cap) := blk_cell HK.out.2.1 0
    have d0 : W2.cell? ⟨w0.heap.size + 1, 0, none⟩ = some (.int .u8 33) := blk_cell HK.out.2.2 0
    have d1 : W2.cell? ⟨w0.heap.size + 1, 1, none⟩ = some (.int .i64 at_) := blk_cell HK.out.2.2 1
    have d2 : W2.cell? ⟨w0.heap.size + 1, 2, none⟩ = some (.int .i64 m) := blk_cell HK.out.2.2 2
    have d3 : W2.cell? ⟨w0.heap.size + 1, 3, none⟩ = some (.string s) := blk_cell HK.out.2.2 3
    have d4 : W2.cell? ⟨w0.heap.size + 1, 4, none⟩ = some (.slice la M lc) := blk_cell HK.out.2.2 4
    refine wp_region_rv 10 GK (kindW [(6, (fun v => v = .string C), (fun _ _ => True))]) (by kernel_rfl) (by kernel_rfl) (kb_trans _) (kb_refl _) (kb_start _ _) (kindW_mono _ (by intro p hp; simp only [List.mem_cons, List.not_mem_nil, or_false] at hp; (subst hp; exact lasts_true))) ?_
    simp only [List.take_succ_cons, List.take_zero, List.drop_succ_cons, List.drop_zero]
    iterate 6 (refine rv_det (by kernel_rfl) rfl (by intro w hG hH; have hc0 := KB.cell hG (fun x => x) (d3); have hc1 := KB.cell hG (fun x => x) (d4); have hc2 := KB.cell hG (fun x => x) (e0); go_simp; first | done | with_reducible rfl) ?_; simp only [Act.put, List.setIfInBounds_toArray, List.set_cons_zero, List.set_cons_succ])
    refine rv_rel (by kernel_rfl) rfl ⟨_, rfl⟩ (by
      intro w hG hH
      refine opVal_call (by go_simp; first | done | exact ⟨⟨rfl, rfl⟩, rfl⟩) ?_
      refine (TB.out _ (HK.out.1.trans hG)).mono ?_
      rintro e w' ⟨rfl, hq⟩
      exact ⟨_, rfl, rfl, by first | (obtain ⟨nq, rfl⟩ := hq; exact (KB.refl _ _).drewN _) | (subst hq; exact KB.refl _ _) | exact hq, trivial⟩) ?_
    rintro v rfl
    simp only [Act.put, List.setIfInBounds_toArray, List.set_cons_zero, List.set_cons_succ]
    iterate 3 (refine rv_det (by kernel_rfl) rfl (by intro w hG hH; go_simp; first | done | with_reducible rfl) ?_; simp only [Act.put, List.setIfInBounds_toArray, List.set_cons_zero, List.set_cons_succ])
    refine rv_nil (fun w hG hH => ?_)
    have K := Lib.hid (HK.out.1.trans hG)
    clear hG hH d0 d1 d2 d3 d4 e0
    go_wp2_with fail
    go_ret
    exact ⟨rfl, K.out⟩
  · -- 34
    have hmk := HMK.out rfl
    have hr2 : r = s ++ ⟨#[32, 123, 32]⟩ ++ jnK ⟨#[44, 32]⟩ (iniE ts (Ex ts) ⟨34, at_, m, s, l⟩) M ++ ⟨#[32, 125]⟩ := by rw [HR.out, HM.out]; rfl
    have hss := HTX.out.2.1
    obtain ⟨A1, hA1⟩ : ∃ Z_ : ByteArray, s ++ ⟨#[32, 123, 32]⟩ = Z_ := ⟨_, rfl⟩
    have s1 : A1.size = s.size + 3 := by rw [← hA1, ByteArray.size_append]; rfl
    rw [hA1] at hr2
    generalize iniE ts (Ex ts) ⟨34, at_, m, s, l⟩ = g at hr2 hmk
    have HZ : Hid (∀ k, k ≤ M → (A1 ++ jnK ⟨#[44, 32]⟩ g k).size ≤ 100000000) := Lib.hid (fun k hk => by
      have := jnK_le (sep := ⟨#[44, 32]⟩) (g := g) hk
      have := hmk.2.1
      rw [ByteArray.size_append]; omega)
    have hE0 : A1 ++ jnK ⟨#[44, 32]⟩ g 0 = A1 := ByteArray.append_empty
    have HE0 := Lib.hid hE0
    have HRE := Lib.hid hr2
    have HMM := Lib.hid hmk.2.2
    have hM8 : M ≤ 8 := hmk.1
    have z1 : ¬ (9223372036854775807 < s.size + 3) := by omega
    have H0 : Hid (KB F0 W2 W2) := Lib.hid (KB.refl _ _)
    clear hr2 hss s1 hmk hE0 HMK HCL HC1 HC2 HR
    have HW2 : Hid (W2 = W1.alloc (.cells #[.int .u8 34, .int .i64 at_, .int .i64 m, .string s, .slice la M lc] 44)) := Lib.hid HW.out.1
    go_enter Tryz.func72, Tryz.ntmps72
    go_wp2_with fail
    rw [← HW.out.2, ← HW2.out]
    clear c0 c1 c2 c3 c4 HW2
    have e0 : W2.cell? ⟨w0.heap.size, 0, none⟩ = some (.slice (some ⟨b, off, none⟩) N cap) := blk_cell HK.out.2.1 0
    have d0 : W2.cell? ⟨w0.heap.size + 1, 0, none⟩ = some (.int .u8 34) := blk_cell HK.out.2.2 0
    have d1 : W2.cell? ⟨w0.heap.size + 1, 1, none⟩ = some (.int .i64 at_) := blk_cell HK.out.2.2 1
    have d2 : W2.cell? ⟨w0.heap.size + 1, 2, none⟩ = some (.int .i64 m) := blk_cell HK.out.2.2 2
    have d3 : W2.cell? ⟨w0.heap.size + 1, 3, none⟩ = some (.string s) := blk_cell HK.out.2.2 3
    have d4 : W2.cell? ⟨w0.heap.size + 1, 4, none⟩ = some (.slice la M lc) := blk_cell HK.out.2.2 4
    clear d0 d1 d2 d3 d4 e0
    go_loopw [9, 10] (fun sv kv wr => ∃ k : Nat, k ≤ M ∧ sv = .string (A1 ++ jnK ⟨#[44, 32]⟩ g k) ∧ kv = .int .i64 (k : Nat) ∧ Hid (KB F0 W2 wr)) (fun _ kv _ => M - (intOf kv).toNat)
    case atStart => exact ⟨0, by omega, by rw [HE0.out], rfl, H0⟩
    case round =>
      obtain ⟨k, hk, rfl, rfl, hst⟩ := hrel
      clear H0
      have d4 : wr.cell? ⟨w0.heap.size + 1, 4, none⟩ = some (.slice la M lc) := blk_cell (hst.out.heap (fun x => x) HK.out.2.2) 4
      by_cases hlt : k < M
      · have hkM : (k : Int) < (M : Int) := by omega
        obtain ⟨lb, lo, rfl, hcc⟩ := HI.out k hlt
        obtain ⟨b2, off2, p, q, la2, lo2, lc2, k2, a2, n2, s2, hab, hlp, hpN, f0, f1, f2, f3, f4, g1, hs2, hCz, hini, hcall⟩ := HMM.out k hlt
        simp only [Option.some.injEq, Addr.mk.injEq, and_true] at hab
        obtain ⟨rfl, rfl⟩ := hab
        rw [hlp] at hcc
        have hkk := HK.out.1.trans hst.out
        have hcc := hkk.cell (p := ⟨lb, lo + k, none⟩) (fun x => x) hcc
        have f0 := hkk.cell (p := ⟨b, off + p * 5, none⟩) (fun x => x) f0
        have f1 := hkk.cell (p := ⟨b, off + p * 5 + 1, none⟩) (fun x => x) f1
        have f2 := hkk.cell (p := ⟨b, off + p * 5 + 2, none⟩) (fun x => x) f2
        have f3 := hkk.cell (p := ⟨b, off + p * 5 + 3, none⟩) (fun x => x) f3
        have f4 := hkk.cell (p := ⟨b, off + p * 5 + 4, none⟩) (fun x => x) f4
        have g1 := hkk.cell (p := ⟨la2, lo2, none⟩) (fun x => x) g1
        have lt1 : w0.heap.size < wr.heap.size := heap_lt (hst.out.heap (fun x => x) HK.out.2.1)
        have lt2 : w0.heap.size + 1 < wr.heap.size := heap_ltc d4
        have lt3 : b < wr.heap.size := heap_ltc f0
        have lt4 : lb < wr.heap.size := heap_ltc hcc
        have hpi : (p : Int) < (N : Int) := by omega
        have C1 := Lib.hid hcall
        unfold TxtCall at C1
        have hz1 := HZ.out (k + 1) (by omega)
        have hj0 : k = 0 → A1 ++ jnK ⟨#[44, 32]⟩ g (k + 1) = A1 ++ jnK ⟨#[44, 32]⟩ g k ++ g k := fun e => by
          subst e
          rw [HE0.out]; rfl
        have hj1 : k ≠ 0 → A1 ++ jnK ⟨#[44, 32]⟩ g (k + 1) = A1 ++ jnK ⟨#[44, 32]⟩ g k ++ ⟨#[44, 32]⟩ ++ g k := fun e => by
          rw [jn_next e]; simp only [ByteArray.append_assoc]
        rw [hini] at hj0 hj1
        generalize Ex ts q 1 = G at C1 hCz hj0 hj1
        obtain ⟨S, hS⟩ : ∃ S, S = A1 ++ jnK ⟨#[44, 32]⟩ g k := ⟨_, rfl⟩
        obtain ⟨S2, hS2⟩ : ∃ S, S = A1 ++ jnK ⟨#[44, 32]⟩ g (k + 1) := ⟨_, rfl⟩
        have HS2 := Lib.hid hS2
        rw [← hS, ← hS2] at hj0 hj1
        rw [← hS2] at hz1
        rw [← hS]
        clear hS hS2 hlp hini hcall hkk hpN
        by_cases h0 : k = 0
        · have hE1 := hj0 h0
          have t1 : decide (0 < k) = false := decide_eq_false (by omega)
          obtain ⟨B1, hB1⟩ : ∃ Z_ : ByteArray, S ++ s2 = Z_ := ⟨_, rfl⟩
          obtain ⟨B2, hB2⟩ : ∃ Z_ : ByteArray, B1 ++ ⟨#[58, 32]⟩ = Z_ := ⟨_, rfl⟩
          have hE : B2 ++ G = S2 := by rw [hE1, ← hB2, ← hB1]; simp only [ByteArray.append_assoc]
          have sB1 : B1.size = S.size + s2.size := by rw [← hB1, ByteArray.size_append]
          have sB2 : B2.size = B1.size + 2 := by rw [← hB2, ByteArray.size_append]; rfl
          have sE : S2.size = B2.size + G.size := by rw [← hE, ByteArray.size_append]
          have z2 : ¬ (9223372036854775807 < S.size + s2.size) := by omega
          have z3 : ¬ (9223372036854775807 < B1.size + 2) := by omega
          have z4 : ¬ (9223372036854775807 < B2.size + G.size) := by omega
          clear hj0 hj1 h0 hE1 sB1 sB2 sE hz1 hs2 hCz d4
          have e0 : wr.cell? ⟨w0.heap.size, 0, none⟩ = some (.slice (some ⟨b, off, none⟩) N cap) := blk_cell (hst.out.heap (fun x => x) HK.out.2.1) 0
          have d4 : wr.cell? ⟨w0.heap.size + 1, 4, none⟩ = some (.slice (some ⟨lb, lo, none⟩) M lc) := blk_cell (hst.out.heap (fun x => x) HK.out.2.2) 4
          go_wp2_with fail
          refine shareP (G := ?G) ?cont ?main
          case main =>
            intro key
            go_region
            obtain ⟨Wz, hWz⟩ : ∃ Wz, Wz = (wr.alloc (.cells #[.int .u8 (k2 : Nat), .int .i64 a2, .int .i64 n2, .string s2, .slice (some ⟨la2, lo2, none⟩) 1 lc2] 44)).drew := ⟨_, rfl⟩
            rw [← hWz]
            have kz : KB F0 wr Wz := by rw [hWz]; exact ((KB.refl _ _).alloc _).drew
            have hY : Wz.heap[wr.heap.size]? = some (.cells #[.int .u8 (k2 : Nat), .int .i64 a2, .int .i64 n2, .string s2, .slice (some ⟨la2, lo2, none⟩) 1 lc2] 44 (0, 0)) := by
              rw [hWz]; exact (alloc_new wr _)
            clear hWz
            revert hY
            revert kz
            revert Wz
            exact key
          case cont =>
            intro Wz kz hY
            have y3 : Wz.cell? ⟨wr.heap.size, 3, none⟩ = some (.string s2) := blk_cell hY 3
            have y4 : Wz.cell? ⟨wr.heap.size, 4, none⟩ = some (.slice (some ⟨la2, lo2, none⟩) 1 lc2) := blk_cell hY 4
            have e0 := kz.cell (p := ⟨w0.heap.size, 0, none⟩) (fun x => x) e0
            have g1 := kz.cell (p := ⟨la2, lo2, none⟩) (fun x => x) g1
            have KZ := Lib.hid (hst.out.trans kz)
            clear kz hY d4 f0 f1 f2 f3 f4 hcc lt1 lt2 lt3 lt4
            go_wp2_with fail
            refine wp_region_rv 13 GK (kindW [(10, (fun v => v = .string G), (fun _ _ => True))]) (by kernel_rfl) (by kernel_rfl) (kb_trans _) (kb_refl _) (kb_start _ _) (kindW_mono _ (by intro p hp; simp only [List.mem_cons, List.not_mem_nil, or_false] at hp; (subst hp; exact lasts_true))) ?_
            simp only [List.take_succ_cons, List.take_zero, List.drop_succ_cons, List.drop_zero]
            iterate 10 (refine rv_det (by kernel_rfl) rfl (by intro w hG hH; have hc0 := KB.cell hG (fun x => x) (y3); have hc1 := KB.cell hG (fun x => x) (y4); have hc2 := KB.cell hG (fun x => x) (e0); have hc3 := KB.cell hG (fun x => x) (g1); go_simp; first | done | with_reducible rfl) ?_; simp only [Act.put, List.setIfInBounds_toArray, List.set_cons_zero, List.set_cons_succ])
            refine rv_rel (by kernel_rfl) rfl ⟨_, rfl⟩ (by
              intro w hG hH
              refine opVal_call (by go_simp; first | done | exact ⟨⟨rfl, rfl⟩, rfl⟩) ?_
              refine (C1.out _ ((HK.out.1.trans KZ.out).trans hG)).mono ?_
              rintro e w' ⟨rfl, hq⟩
              exact ⟨_, rfl, rfl, by first | (obtain ⟨nq, rfl⟩ := hq; exact (KB.refl _ _).drewN _) | (subst hq; exact KB.refl _ _) | exact hq, trivial⟩) ?_
            rintro v rfl
            simp only [Act.put, List.setIfInBounds_toArray, List.set_cons_zero, List.set_cons_succ]
            iterate 2 (refine rv_det (by kernel_rfl) rfl (by intro w hG hH; go_simp; first | done | with_reducible rfl) ?_; simp only [Act.put, List.setIfInBounds_toArray, List.set_cons_zero, List.set_cons_succ])
            refine rv_nil (fun w hG hH => ?_)
            have H1 : Hid (KB F0 W2 w) := Lib.hid (KZ.out.trans hG)
            clear hG hH e0 y3 y4 g1 KZ
            go_wp2_with fail
            go_roundw
            case rel => exact ⟨k + 1, by omega, by rw [← HS2.out], by go_num, H1⟩
            case measure => simp [intOf]; omega

        · have hE1 := hj1 h0
          have t1 : decide (0 < k) = true := decide_eq_true (by omega)
          obtain ⟨B0, hB0⟩ : ∃ Z_ : ByteArray, S ++ ⟨#[44, 32]⟩ = Z_ := ⟨_, rfl⟩
          obtain ⟨B1, hB1⟩ : ∃ Z_ : ByteArray, B0 ++ s2 = Z_ := ⟨_, rfl⟩
          obtain ⟨B2, hB2⟩ : ∃ Z_ : ByteArray, B1 ++ ⟨#[58, 32]⟩ = Z_ := ⟨_, rfl⟩
          have hE : B2 ++ G = S2 := by rw [hE1, ← hB2, ← hB1, ← hB0]; simp only [ByteArray.append_assoc]
          have sB0 : B0.size = S.size + 2 := by rw [← hB0, ByteArray.size_append]; rfl
          have sB1 : B1.size = B0.size + s2.size := by rw [← hB1, ByteArray.size_append]
          have sB2 : B2.size = B1.size + 2 := by rw [← hB2, ByteArray.size_append]; rfl
          have sE : S2.size = B2.size + G.size := by rw [← hE, ByteArray.size_append]
          have z1 : ¬ (9223372036854775807 < S.size + 2) := by omega
          have z2 : ¬ (9223372036854775807 < B0.size + s2.size) := by omega
          have z3 : ¬ (9223372036854775807 < B1.size + 2) := by omega
          have z4 : ¬ (9223372036854775807 < B2.size + G.size) := by omega
          clear hj0 hj1 h0 hE1 sB0 sB1 sB2 sE hz1 hs2 hCz d4
          have e0 : wr.cell? ⟨w0.heap.size, 0, none⟩ = some (.slice (some ⟨b, off, none⟩) N cap) := blk_cell (hst.out.heap (fun x => x) HK.out.2.1) 0
          have d4 : wr.cell? ⟨w0.heap.size + 1, 4, none⟩ = some (.slice (some ⟨lb, lo, none⟩) M lc) := blk_cell (hst.out.heap (fun x => x) HK.out.2.2) 4
          go_wp2_with fail
          refine shareP (G := ?G2) ?cont2 ?main2
          case main2 =>
            intro key
            go_region
            obtain ⟨Wz, hWz⟩ : ∃ Wz, Wz = (wr.alloc (.cells #[.int .u8 (k2 : Nat), .int .i64 a2, .int .i64 n2, .string s2, .slice (some ⟨la2, lo2, none⟩) 1 lc2] 44)).drew := ⟨_, rfl⟩
            rw [← hWz]
            have kz : KB F0 wr Wz := by rw [hWz]; exact ((KB.refl _ _).alloc _).drew
            have hY : Wz.heap[wr.heap.size]? = some (.cells #[.int .u8 (k2 : Nat), .int .i64 a2, .int .i64 n2, .string s2, .slice (some ⟨la2, lo2, none⟩) 1 lc2] 44 (0, 0)) := by
              rw [hWz]; exact (alloc_new wr _)
            clear hWz
            revert hY
            revert kz
            revert Wz
            exact key
          case cont2 =>
            intro Wz kz hY
            have y3 : Wz.cell? ⟨wr.heap.size, 3, none⟩ = some (.string s2) := blk_cell hY 3
            have y4 : Wz.cell? ⟨wr.heap.size, 4, none⟩ = some (.slice (some ⟨la2, lo2, none⟩) 1 lc2) := blk_cell hY 4
            have e0 := kz.cell (p := ⟨w0.heap.size, 0, none⟩) (fun x => x) e0
            have g1 := kz.cell (p := ⟨la2, lo2, none⟩) (fun x => x) g1
            have KZ := Lib.hid (hst.out.trans kz)
            clear kz hY d4 f0 f1 f2 f3 f4 hcc lt1 lt2 lt3 lt4
            go_wp2_with fail
            refine wp_region_rv 13 GK (kindW [(10, (fun v => v = .string G), (fun _ _ => True))]) (by kernel_rfl) (by kernel_rfl) (kb_trans _) (kb_refl _) (kb_start _ _) (kindW_mono _ (by intro p hp; simp only [List.mem_cons, List.not_mem_nil, or_false] at hp; (subst hp; exact lasts_true))) ?_
            simp only [List.take_succ_cons, List.take_zero, List.drop_succ_cons, List.drop_zero]
            iterate 10 (refine rv_det (by kernel_rfl) rfl (by intro w hG hH; have hc0 := KB.cell hG (fun x => x) (y3); have hc1 := KB.cell hG (fun x => x) (y4); have hc2 := KB.cell hG (fun x => x) (e0); have hc3 := KB.cell hG (fun x => x) (g1); go_simp; first | done | with_reducible rfl) ?_; simp only [Act.put, List.setIfInBounds_toArray, List.set_cons_zero, List.set_cons_succ])
            refine rv_rel (by kernel_rfl) rfl ⟨_, rfl⟩ (by
              intro w hG hH
              refine opVal_call (by go_simp; first | done | exact ⟨⟨rfl, rfl⟩, rfl⟩) ?_
              refine (C1.out _ ((HK.out.1.trans KZ.out).trans hG)).mono ?_
              rintro e w' ⟨rfl, hq⟩
              exact ⟨_, rfl, rfl, by first | (obtain ⟨nq, rfl⟩ := hq; exact (KB.refl _ _).drewN _) | (subst hq; exact KB.refl _ _) | exact hq, trivial⟩) ?_
            rintro v rfl
            simp only [Act.put, List.setIfInBounds_toArray, List.set_cons_zero, List.set_cons_succ]
            iterate 2 (refine rv_det (by kernel_rfl) rfl (by intro w hG hH; go_simp; first | done | with_reducible rfl) ?_; simp only [Act.put, List.setIfInBounds_toArray, List.set_cons_zero, List.set_cons_succ])
            refine rv_nil (fun w hG hH => ?_)
            have H1 : Hid (KB F0 W2 w) := Lib.hid (KZ.out.trans hG)
            clear hG hH e0 y3 y4 g1 KZ
            go_wp2_with fail
            go_roundw
            case rel => exact ⟨k + 1, by omega, by rw [← HS2.out], by go_num, H1⟩
            case measure => simp [intOf]; omega

      · obtain rfl : k = M := by omega
        have hz1 := HZ.out k (Nat.le_refl _)
        have hE := HRE.out.symm
        generalize A1 ++ jnK ⟨#[44, 32]⟩ g k = S at hz1 hE ⊢
        have z2 : ¬ (9223372036854775807 < S.size + 2) := by omega
        have K := Lib.hid (HK.out.1.trans hst.out)
        clear hz1
        go_wp2_with fail
        go_ret
        exact ⟨rfl, K.out⟩
  · -- 36
    obtain ⟨q, hM1, hq, hqN, hch, hpos, hc⟩ := HC1.out (by decide)
    obtain rfl := hM1
    obtain ⟨lb, lo, rfl, hcl⟩ := HI.out 0 (by decide)
    rw [hq, Nat.add_zero] at hcl
    have hcl := HK.out.1.cell (p := ⟨lb, lo, none⟩) (fun x => x) hcl
    have hz := HSZ.out q 1 hqN
    have hch := hch 1
    have hpos := hpos 1
    have CH := Lib.hid (fun (W : World) (hk : KB F0 w0 W) => hc 1 W (by decide) hk)
    generalize Ex ts q 1 = C at hz hch CH hpos
    unfold TxtCall at CH
    clear hc hq hqN
    have hr2 : r = ⟨#[98, 111, 120, 40]⟩ ++ C ++ ⟨#[41]⟩ := by rw [HR.out]; show _ ++ chE _ _ 0 1 ++ _ = _; rw [hch]
    obtain ⟨A, hA⟩ : ∃ Z_ : ByteArray, ⟨#[98, 111, 120, 40]⟩ ++ C = Z_ := ⟨_, rfl⟩
    have sA : A.size = 4 + C.size := by rw [← hA, ByteArray.size_append]; rfl
    rw [hA] at hr2
    have hr3 := hr2.symm
    have z1 : ¬ (9223372036854775807 < 4 + C.size) := by omega
    have z2 : ¬ (9223372036854775807 < A.size + 1) := by omega
    clear hr2 sA hz hch hpos
    have HW2 : Hid (W2 = W1.alloc (.cells #[.int .u8 36, .int .i64 at_, .int .i64 m, .string s, .slice (some ⟨lb, lo, none⟩) 1 lc] 44)) := Lib.hid HW.out.1
    go_enter Tryz.func72, Tryz.ntmps72
    go_wp2_with fail
    rw [← HW.out.2, ← HW2.out]
    clear c0 c1 c2 c3 c4 HW2
    have e0 : W2.cell? ⟨w0.heap.size, 0, none⟩ = some (.slice (some ⟨b, off, none⟩) N cap) := blk_cell HK.out.2.1 0
    have d0 : W2.cell? ⟨w0.heap.size + 1, 0, none⟩ = some (.int .u8 36) := blk_cell HK.out.2.2 0
    have d1 : W2.cell? ⟨w0.heap.size + 1, 1, none⟩ = some (.int .i64 at_) := blk_cell HK.out.2.2 1
    have d2 : W2.cell? ⟨w0.heap.size + 1, 2, none⟩ = some (.int .i64 m) := blk_cell HK.out.2.2 2
    have d3 : W2.cell? ⟨w0.heap.size + 1, 3, none⟩ = some (.string s) := blk_cell HK.out.2.2 3
    have d4 : W2.cell? ⟨w0.heap.size + 1, 4, none⟩ = some (.slice (some ⟨lb, lo, none⟩) 1 lc) := blk_cell HK.out.2.2 4
    refine wp_region_rv 9 GK (kindW [(5, (fun v => v = .string C), (fun _ _ => True))]) (by kernel_rfl) (by kernel_rfl) (kb_trans _) (kb_refl _) (kb_start _ _) (kindW_mono _ (by intro p hp; simp only [List.mem_cons, List.not_mem_nil, or_false] at hp; (subst hp; exact lasts_true))) ?_
    simp only [List.take_succ_cons, List.take_zero, List.drop_succ_cons, List.drop_zero]
    iterate 5 (refine rv_det (by kernel_rfl) rfl (by intro w hG hH; have hc0 := KB.cell hG (fun x => x) (e0); have hc1 := KB.cell hG (fun x => x) (d4); have hc2 := KB.cell hG (fun x => x) (hcl); go_simp; first | done | with_reducible rfl) ?_; simp only [Act.put, List.setIfInBounds_toArray, List.set_cons_zero, List.set_cons_succ])
    refine rv_rel (by kernel_rfl) rfl ⟨_, rfl⟩ (by
      intro w hG hH
      refine opVal_call (by go_simp; first | done | exact ⟨⟨rfl, rfl⟩, rfl⟩) ?_
      refine (CH.out _ (HK.out.1.trans hG)).mono ?_
      rintro e w' ⟨rfl, hq⟩
      exact ⟨_, rfl, rfl, by first | (obtain ⟨nq, rfl⟩ := hq; exact (KB.refl _ _).drewN _) | (subst hq; exact KB.refl _ _) | exact hq, trivial⟩) ?_
    rintro v rfl
    simp only [Act.put, List.setIfInBounds_toArray, List.set_cons_zero, List.set_cons_succ]
    iterate 3 (refine rv_det (by kernel_rfl) rfl (by intro w hG hH; go_simp; first | done | with_reducible rfl) ?_; simp only [Act.put, List.setIfInBounds_toArray, List.set_cons_zero, List.set_cons_succ])
    refine rv_nil (fun w hG hH => ?_)
    have K := Lib.hid (HK.out.1.trans hG)
    clear hG hH d0 d1 d2 d3 d4 e0 hcl
    go_wp2_with fail
    go_ret
    exact ⟨rfl, K.out⟩
  · -- 37
    have HE : Hid (r = ⟨#[114, 101, 97, 100, 40, 41]⟩) := Lib.hid HR.out
    go_enter Tryz.func72, Tryz.ntmps72
    go_wp2_with fail
    go_ret
    exact ⟨ret_eq (by rw [HE.out]; rfl), by have := HK.out.1; rw [HW.out.1, HW.out.2] at this; exact this⟩
set_option maxRecDepth 100000 in
set_option maxHeartbeats 4000000 in
theorem rexpr_all (ts : List Nd) (h : TOk ts) (hok : ∀ x ∈ ts, NdOk x) (a : Option Addr) (cap f : Nat) : ∀ (n least : Nat) (w : World), n < ts.length → ts.length ≤ n + f → least ≤ 8 → NodesAt w a ts → PT w → isExprB (ts.getD n nd0).k = true →
    TxtCall 47 #[.agg #[.slice a ts.length cap], .int .i64 n, .int .i64 least] w (Ex ts n least) := by
  induction f with
  | zero => intro n least w h1 h2; omega
  | succ f ih =>
    intro n least w hi hf hl hts hT hex
    have hB := fun (W : World) (hk : KB F0 w W) => bare_step ts h hok a cap n hi W (hts.kbF hk) (hT.kb hk) hex
      (fun q l2 W2 h1 h2 h3 h4 h5 => ih q l2 W2 h2 (by omega) h3 (hts.kbF (hk.trans h4)) (hT.kb (hk.trans h4)) h5)
    have hsz := Ex_size h hok least hi
    have hwt := wt1_pos h.good hi
    have hlen := h.len
    obtain ⟨r, hr⟩ : ∃ r, r = Ex ts n least := ⟨_, rfl⟩
    rw [← hr] at hsz ⊢
    rw [Ex_eq h.down hi] at hr
    unfold wrapN at hr
    have HB := Lib.hid hB
    unfold TxtCall at HB
    generalize bareN (ts.getD n nd0) (chE (Ex ts) (ts.getD n nd0)) (iniE ts (Ex ts) (ts.getD n nd0)) = B at HB hr
    have LV := Lib.hid (fun (W : World) (at_ m : Int) (la : Option Addr) (ll lc : Nat) => rlevel_any (ts.getD n nd0).k at_ m (ts.getD n nd0).s la ll lc W)
    generalize lvP (ts.getD n nd0).k (ts.getD n nd0).s = own at LV hr
    obtain ⟨b, off, rfl, hx⟩ := hts n hi
    generalize ts.getD n nd0 = x at hx LV
    obtain ⟨la, lc, hl4, -, -, -⟩ := hx.l
    obtain ⟨k, at_, m, s, l⟩ := x
    simp only at hl4 LV
    obtain ⟨W1, hW1⟩ : ∃ W1, W1 = w.alloc (.cells #[.slice (some ⟨b, off, none⟩) ts.length cap] 24) := ⟨_, rfl⟩
    have k1 : KB F0 w W1 := by rw [hW1]; exact (KB.refl _ _).alloc _
    have c0 : W1.cell? ⟨b, off + n * 5, none⟩ = some (.int .u8 (k : Nat)) := k1.cell (p := ⟨b, off + n * 5, none⟩) (fun x => x) hx.k
    have c1 : W1.cell? ⟨b, off + n * 5 + 1, none⟩ = some (.int .i64 at_) := k1.cell (p := ⟨b, off + n * 5 + 1, none⟩) (fun x => x) hx.at_
    have c2 : W1.cell? ⟨b, off + n * 5 + 2, none⟩ = some (.int .i64 m) := k1.cell (p := ⟨b, off + n * 5 + 2, none⟩) (fun x => x) hx.n
    have c3 : W1.cell? ⟨b, off + n * 5 + 3, none⟩ = some (.string s) := k1.cell (p := ⟨b, off + n * 5 + 3, none⟩) (fun x => x) hx.s
    have c4 := k1.cell (p := ⟨b, off + n * 5 + 4, none⟩) (fun x => x) hl4
    generalize ts.length = N at hi HB hW1 ⊢
    generalize l.length = M at hl4 c4
    have hiN : (n : Int) < (N : Int) := by omega
    obtain ⟨W2, hW2⟩ : ∃ W2, W2 = W1.alloc (.cells #[.int .u8 (k : Nat), .int .i64 at_, .int .i64 m, .string s, .slice la M lc] 44) := ⟨_, rfl⟩
    have hb1 : W2.heap[w.heap.size]? = some (.cells #[.slice (some ⟨b, off, none⟩) N cap] 24 (0, 0)) := by
      rw [hW2]
      exact ((KB.refl F0 W1).alloc _).heap (fun x => x) (by rw [hW1]; exact alloc_new _ _)
    have k2 : KB F0 w W2 := by rw [hW2]; exact k1.alloc _
    have HK := Lib.hid (And.intro k2 hb1)
    have HW := Lib.hid (And.intro hW2 hW1)
    have LV := Lib.hid (fun (W : World) => LV.out W at_ m la M lc)
    obtain ⟨w0, rfl⟩ : ∃ w0, w0 = w := ⟨_, rfl⟩
    have HR := Lib.hid hr
    have hrz : r.size ≤ 100000000 := by omega
    clear hx hts ih h hB hT hok k1 k2 hb1 hl4 hex hwt hlen hf hl hr hsz
    unfold TxtCall
    by_cases hlt : own < least
    · have d9 : decide (own < least) = true := decide_eq_true hlt
      have hr := HR.out
      rw [if_pos hlt] at hr
      obtain ⟨A, hA⟩ : ∃ Z_ : ByteArray, ⟨#[40]⟩ ++ B = Z_ := ⟨_, rfl⟩
      rw [hA] at hr
      have hr2 := hr.symm
      have sA : A.size = 1 + B.size := by rw [← hA, ByteArray.size_append]; rfl
      have sr : r.size = A.size + 1 := by rw [← hr2, ByteArray.size_append]; rfl
      have z1 : ¬ (9223372036854775807 < 1 + B.size) := by omega
      have z2 : ¬ (9223372036854775807 < A.size + 1) := by omega
      clear hlt hr sA sr HR
      go_enter Tryz.func47, Tryz.ntmps47
      rw [hW1] at c0 c1 c2 c3 c4
      go_wp2_with fail
      rw [← HW.out.2, ← HW.out.1]
      refine (LV.out W2).mono ?_
      rintro e w3 ⟨rfl, k3⟩
      have e0 : w3.cell? ⟨w0.heap.size, 0, none⟩ = some (.slice (some ⟨b, off, none⟩) N cap) := blk_cell (k3.heap (fun x => x) HK.out.2) 0
      have HK3 := Lib.hid (HK.out.1.trans k3)
      clear c0 c1 c2 c3 c4 k3 hW1 hW2 HW
      go_wp2_with fail
      refine (HB.out w3 HK3.out).mono ?_
      rintro e w4 ⟨rfl, k4⟩
      have K := Lib.hid (HK3.out.trans k4)
      clear k4 e0
      go_wp2_with fail
      go_ret
      exact ⟨rfl, K.out⟩
    · have d9 : decide (own < least) = false := decide_eq_false hlt
      have hr := HR.out
      rw [if_neg hlt] at hr
      have HE := Lib.hid hr
      clear hlt hr HR
      go_enter Tryz.func47, Tryz.ntmps47
      rw [hW1] at c0 c1 c2 c3 c4
      go_wp2_with fail
      rw [← HW.out.2, ← HW.out.1]
      refine (LV.out W2).mono ?_
      rintro e w3 ⟨rfl, k3⟩
      have e0 : w3.cell? ⟨w0.heap.size, 0, none⟩ = some (.slice (some ⟨b, off, none⟩) N cap) := blk_cell (k3.heap (fun x => x) HK.out.2) 0
      have HK3 := Lib.hid (HK.out.1.trans k3)
      clear c0 c1 c2 c3 c4 k3 hW1 hW2 HW
      go_wp2_with fail
      refine (HB.out w3 HK3.out).mono ?_
      rintro e w4 ⟨rfl, k4⟩
      have K := Lib.hid (HK3.out.trans k4)
      clear k4 e0
      go_wp2_with fail
      go_ret
      exact ⟨ret_eq (by rw [HE.out]; rfl), K.out⟩
theorem rexpr_any (ts : List Nd) (h : TOk ts) (hok : ∀ x ∈ ts, NdOk x) (a : Option Addr) (cap n least : Nat) (w : World) (hn : n < ts.length) (hl : least ≤ 8) (hts : NodesAt w a ts) (hT : PT w) (hex : isExprB (ts.getD n nd0).k = true) :
    TxtCall 47 #[.agg #[.slice a ts.length cap], .int .i64 n, .int .i64 least] w (Ex ts n least) := rexpr_all ts h hok a cap ts.length n least w hn (by omega) hl hts hT hex
end Go.Proofs.YtoophdcagpfmpaaGreatDoor

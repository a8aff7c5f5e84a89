/- print: an expression's text. -/
import Derived.Test.YtoophdcagpfmpaaGreatDoorMg15
namespace Go.Proofs.YtoophdcagpfmpaaGreatDoor
open Go.RowKit

theorem kb_grow {w w' : World} (h : ∃ k os, w' = Go.Sort.grow (w.drewN k) os) : KB F0 w w' := by
  obtain ⟨k, os, rfl⟩ := h
  exact ⟨rfl, rfl, rfl, by simp [Go.Sort.grow], fun i hi _ => Go.Sort.heap_grow_old (w.drewN k) os hi⟩
set_option maxRecDepth 100000 in
theorem child_any (X1 X2 : Nat) (a : Option Addr) (N cap : Nat) (cs : Array Value) (lb lo M lc q least : Nat) (C : ByteArray) (w : World) (hq : 0 < M) (hb1 : w.heap[X1]? = some (.cells #[.slice a N cap] 62 (0, 0))) (hb2 : w.cell? ⟨X2, 4, none⟩ = some (.slice (some ⟨lb, lo, none⟩) M lc))
    (hcl : w.cell? ⟨lb, lo, none⟩ = some (.int .i64 q)) (HC : ∀ W, KB F0 w W → Calls Tryz.prog 70 #[.slice a N cap, .int .i64 q, .int .i64 least] W fun e w' => e = .returned (.string C) ∧ KB F0 W w') :
    Calls Tryz.prog 103 #[.int .i64 least, .pointer (some ⟨X1, 0, none⟩), .pointer (some ⟨X2, 0, none⟩)] w fun e w' => e = .returned (.string C) ∧ KB F0 w w' := by
  obtain ⟨w0, rfl⟩ : ∃ w0, w0 = w := ⟨_, rfl⟩
  have e0 : w0.cell? ⟨X1, 0, none⟩ = some (.slice a N cap) := blk_cell hb1 0
  have H := Lib.hid HC
  have hqi : (0 : Int) < (M : Int) := by omega
  clear HC hb1
  go_enter Tryz.func103, Tryz.ntmps103
  go_wp2_with fail
  refine wp_region_rv 8 GK (kindW [(6, (fun v => v = .string C), (fun _ _ => True))]) (by kernel_rfl) (by kernel_rfl) (kb_trans _) (kb_refl _) (kb_start _ _) (kindW_mono _ (by intro p hp; simp only [List.mem_cons, List.not_mem_nil, or_false] at hp; (subst hp; exact lasts_true))) ?_
  simp only [List.take_succ_cons, List.take_zero, List.drop_succ_cons, List.drop_zero]
  iterate 6 (refine rv_det (by kernel_rfl) rfl (by intro w hG hH; have hc0 := KB.cell hG (fun x => x) (e0); have hc1 := KB.cell hG (fun x => x) (hb2); have hc2 := KB.cell hG (fun x => x) (hcl); go_simp; first | done | with_reducible rfl) ?_; simp only [Act.put, List.setIfInBounds_toArray, List.set_cons_zero, List.set_cons_succ])
  refine rv_rel (by kernel_rfl) rfl ⟨_, rfl⟩ (by
    intro w hG hH
    refine opVal_call (by go_simp; first | done | exact ⟨⟨rfl, rfl⟩, rfl⟩) ?_
    refine (H.out _ hG).mono ?_
    rintro e w' ⟨rfl, hq⟩
    exact ⟨_, rfl, rfl, by first | (obtain ⟨nq, rfl⟩ := hq; exact (KB.refl _ _).drewN _) | (subst hq; exact KB.refl _ _) | exact hq, trivial⟩) ?_
  rintro v rfl
  simp only [Act.put, List.setIfInBounds_toArray, List.set_cons_zero, List.set_cons_succ]
  refine rv_det (by kernel_rfl) rfl (by intro w hG hH; go_simp; first | done | with_reducible rfl) ?_
  simp only [Act.put, List.setIfInBounds_toArray, List.set_cons_zero, List.set_cons_succ]
  refine rv_nil (fun w hG hH => ?_)
  have K := Lib.hid hG
  clear hG hH e0 hb2 hcl
  go_wp2_with fail
  go_ret
  exact ⟨rfl, K.out⟩
set_option maxRecDepth 100000 in
theorem whole_of (tv : Value) (q : Nat) (C : ByteArray) (w : World) (HC : Calls Tryz.prog 70 #[tv, .int .i64 q, .int .i64 1] w fun e w' => e = .returned (.string C) ∧ KB F0 w w') :
    Calls Tryz.prog 42 #[tv, .int .i64 q] w fun e w' => e = .returned (.string C) ∧ KB F0 w w' := by
  have H := Lib.hid HC
  clear HC
  go_enter Tryz.func42, Tryz.ntmps42
  go_wp2_with fail
  refine H.out.mono ?_
  rintro e w2 ⟨rfl, k2⟩
  have K := Lib.hid k2
  clear k2
  go_wp2_with fail
  go_ret
  exact ⟨rfl, K.out⟩
set_option maxRecDepth 100000 in
theorem ini_any (X1 b off N cap p : Nat) (s : ByteArray) (lb lo lc q : Nat) (C : ByteArray) (w : World) (hs : s.size ≤ 32) (hC : C.size ≤ 100000000) (hp : p < N) (hN : N ≤ 20000) (hb1 : w.heap[X1]? = some (.cells #[.slice (some ⟨b, off, none⟩) N cap] 62 (0, 0)))
    (c3 : w.cell? ⟨b, off + p * 5 + 3, none⟩ = some (.string s)) (c4 : w.cell? ⟨b, off + p * 5 + 4, none⟩ = some (.slice (some ⟨lb, lo, none⟩) 1 lc)) (hcl : w.cell? ⟨lb, lo, none⟩ = some (.int .i64 q))
    (HC : ∀ W, KB F0 w W → Calls Tryz.prog 42 #[.slice (some ⟨b, off, none⟩) N cap, .int .i64 q] W fun e w' => e = .returned (.string C) ∧ KB F0 W w') :
    Calls Tryz.prog 106 #[.int .i64 p, .pointer (some ⟨X1, 0, none⟩)] w fun e w' => e = .returned (.string (s ++ ⟨#[58, 32]⟩ ++ C)) ∧ KB F0 w w' := by
  obtain ⟨w0, rfl⟩ : ∃ w0, w0 = w := ⟨_, rfl⟩
  have e0 : w0.cell? ⟨X1, 0, none⟩ = some (.slice (some ⟨b, off, none⟩) N cap) := blk_cell hb1 0
  have H := Lib.hid HC
  obtain ⟨A, hA⟩ : ∃ A : ByteArray, s ++ ⟨#[58, 32]⟩ = A := ⟨_, rfl⟩
  have sA : A.size = s.size + 2 := by rw [← hA, ByteArray.size_append]; rfl
  have z1 : ¬ (9223372036854775807 < s.size + 2) := by omega
  have z2 : ¬ (9223372036854775807 < A.size + C.size) := by omega
  rw [hA]
  have hpi : (p : Int) < (N : Int) := by omega
  clear HC hb1 sA hs hC
  go_enter Tryz.func106, Tryz.ntmps106
  go_wp2_with fail
  refine wp_region_rv 17 GK (kindW [(14, (fun v => v = .string C), (fun _ _ => True))]) (by kernel_rfl) (by kernel_rfl) (kb_trans _) (kb_refl _) (kb_start _ _) (kindW_mono _ (by intro p hp; simp only [List.mem_cons, List.not_mem_nil, or_false] at hp; (subst hp; exact lasts_true))) ?_
  simp only [List.take_succ_cons, List.take_zero, List.drop_succ_cons, List.drop_zero]
  iterate 14 (refine rv_det (by kernel_rfl) rfl (by intro w hG hH; have hc0 := KB.cell hG (fun x => x) (e0); have hc1 := KB.cell hG (fun x => x) (c3); have hc2 := KB.cell hG (fun x => x) (c4); have hc3 := KB.cell hG (fun x => x) (hcl); go_simp; first | done | with_reducible rfl) ?_; simp only [Act.put, List.setIfInBounds_toArray, List.set_cons_zero, List.set_cons_succ])
  refine rv_rel (by kernel_rfl) rfl ⟨_, rfl⟩ (by
    intro w hG hH
    refine opVal_call (by go_simp; first | done | exact ⟨⟨rfl, rfl⟩, rfl⟩) ?_
    refine (H.out _ hG).mono ?_
    rintro e w' ⟨rfl, hq⟩
    exact ⟨_, rfl, rfl, by first | (obtain ⟨nq, rfl⟩ := hq; exact (KB.refl _ _).drewN _) | (subst hq; exact KB.refl _ _) | exact hq, trivial⟩) ?_
  rintro v rfl
  simp only [Act.put, List.setIfInBounds_toArray, List.set_cons_zero, List.set_cons_succ]
  iterate 2 (refine rv_det (by kernel_rfl) rfl (by intro w hG hH; go_simp; first | done | with_reducible rfl) ?_; simp only [Act.put, List.setIfInBounds_toArray, List.set_cons_zero, List.set_cons_succ])
  refine rv_nil (fun w hG hH => ?_)
  have K := Lib.hid hG
  clear hG hH e0 c3 c4 hcl
  go_wp2_with fail
  go_ret
  exact ⟨rfl, K.out⟩
theorem expr_cases {k : Nat} (h : isExprB k = true) : k = 24 ∨ k = 25 ∨ k = 26 ∨ k = 27 ∨ k = 28 ∨ k = 29 ∨ k = 30 ∨ k = 31 ∨ k = 32 ∨ k = 33 ∨ k = 34 ∨ k = 36 ∨ k = 37 := by
  unfold isExprB at h
  simp only [Bool.and_eq_true, Bool.not_eq_true', decide_eq_true_eq, decide_eq_false_iff_not] at h
  omega
theorem lv_le (k : Nat) (s : ByteArray) : lvP k s ≤ 8 ∧ (k = 32 → lvP k s ≤ 5) := by
  unfold lvP
  by_cases h : k = 32
  · rw [if_pos h]
    by_cases h1 : s = ⟨#[124, 124]⟩
    · rw [if_pos h1]; exact ⟨by omega, fun _ => by omega⟩
    rw [if_neg h1]
    by_cases h2 : s = ⟨#[38, 38]⟩
    · rw [if_pos h2]; exact ⟨by omega, fun _ => by omega⟩
    rw [if_neg h2]
    by_cases h3 : s = ⟨#[43]⟩ ∨ s = ⟨#[45]⟩
    · rw [if_pos h3]; exact ⟨by omega, fun _ => by omega⟩
    rw [if_neg h3]
    by_cases h4 : s = ⟨#[42]⟩ ∨ s = ⟨#[47]⟩ ∨ s = ⟨#[37]⟩
    · rw [if_pos h4]; exact ⟨by omega, fun _ => by omega⟩
    rw [if_neg h4]; exact ⟨by omega, fun _ => by omega⟩
  · rw [if_neg h]
    by_cases h1 : 28 ≤ k ∧ k ≤ 31
    · rw [if_pos h1]; exact ⟨by omega, fun e => absurd e h⟩
    rw [if_neg h1]
    by_cases h2 : k = 27
    · rw [if_pos h2]; exact ⟨by omega, fun e => absurd e h⟩
    rw [if_neg h2]; exact ⟨by omega, fun e => absurd e h⟩
def TxtCall (fn : Nat) (args : Array Value) (w : World) (C : ByteArray) : Prop := Calls Tryz.prog fn args w fun e w' => e = .returned (.string C) ∧ KB F0 w w'
set_option maxRecDepth 100000 in
set_option maxHeartbeats 16000000 in
theorem expr_bare (ts : List Nd) (h : TOk ts) (hok : ∀ x ∈ ts, NdOk x) (a : Option Addr) (cap n : Nat) (hi : n < ts.length) (w : World) (hts : NodesAt w a ts) (hT : PT w) (hex : isExprB (ts.getD n nd0).k = true)
    (ih : ∀ (q least : Nat) (W : World), n < q → q < ts.length → least ≤ 8 → KB F0 w W → isExprB (ts.getD q nd0).k = true → TxtCall 70 #[.slice a ts.length cap, .int .i64 q, .int .i64 least] W (Ex ts q least))
    (least : Nat) (hle : least ≤ lvP (ts.getD n nd0).k (ts.getD n nd0).s) :
    TxtCall 70 #[.slice a ts.length cap, .int .i64 n, .int .i64 least] w (bareN (ts.getD n nd0) (chE (Ex ts) (ts.getD n nd0)) (iniE ts (Ex ts) (ts.getD n nd0))) := by
  obtain ⟨w0, rfl⟩ : ∃ w0, w0 = w := ⟨_, rfl⟩
  have hlen := h.len
  obtain ⟨r, hr⟩ : ∃ r, r = bareN (ts.getD n nd0) (chE (Ex ts) (ts.getD n nd0)) (iniE ts (Ex ts) (ts.getD n nd0)) := ⟨_, rfl⟩
  rw [← hr]
  have htx := h.txt hi
  have hxk := hok _ (getD_memN hi)
  have hsz : ∀ q l, q < ts.length → (Ex ts q l).size ≤ 4000000 := fun q l hq => by
    have h1 := Ex_size h hok l hq
    have h2 := wt1_pos h.good hq
    omega
  -- one child
  have h1c : (ts.getD n nd0).k = 27 ∨ (ts.getD n nd0).k = 28 ∨ (ts.getD n nd0).k = 29 ∨ (ts.getD n nd0).k = 30 ∨ (ts.getD n nd0).k = 31 ∨ (ts.getD n nd0).k = 36 → ∃ q : Nat, (ts.getD n nd0).l.length = 1 ∧ (ts.getD n nd0).l.getD 0 0 = (q : Int) ∧ q < ts.length ∧
      (∀ l, chE (Ex ts) (ts.getD n nd0) 0 l = Ex ts q l) ∧ ∀ (l : Nat) (W : World), l ≤ 8 → KB F0 w0 W → TxtCall 70 #[.slice a ts.length cap, .int .i64 q, .int .i64 l] W (Ex ts q l) := fun e => by
    have e1 := h.ex1 hi (by omega)
    have e2 := h.kid hi (i := 0) (by omega)
    exact ⟨_, e1.1, e2.2.2, e2.2.1, fun l => by unfold chE; rw [if_pos (by omega)], fun l W hl hk => ih _ l W e2.1 e2.2.1 hl hk e1.2⟩
  have h2c : (ts.getD n nd0).k = 32 → ∃ q q2 : Nat, (ts.getD n nd0).l.length = 2 ∧ (ts.getD n nd0).l.getD 0 0 = (q : Int) ∧ (ts.getD n nd0).l.getD 1 0 = (q2 : Int) ∧ q < ts.length ∧ q2 < ts.length ∧
      (∀ l, chE (Ex ts) (ts.getD n nd0) 0 l = Ex ts q l) ∧ (∀ l, chE (Ex ts) (ts.getD n nd0) 1 l = Ex ts q2 l) ∧ (∀ (l : Nat) (W : World), l ≤ 8 → KB F0 w0 W → TxtCall 70 #[.slice a ts.length cap, .int .i64 q, .int .i64 l] W (Ex ts q l)) ∧
      ∀ (l : Nat) (W : World), l ≤ 8 → KB F0 w0 W → TxtCall 70 #[.slice a ts.length cap, .int .i64 q2, .int .i64 l] W (Ex ts q2 l) := fun e => by
    have e1 := h.ex2 hi (by omega)
    have e2 := h.kid hi (i := 0) (by omega)
    have e3 := h.kid hi (i := 1) (by omega)
    exact ⟨_, _, e1.1, e2.2.2, e3.2.2, e2.2.1, e3.2.1, fun l => by unfold chE; rw [if_pos (by omega)], fun l => by unfold chE; rw [if_pos (by omega)], fun l W hl hk => ih _ l W e2.1 e2.2.1 hl hk e1.2.1, fun l W hl hk => ih _ l W e3.1 e3.2.1 hl hk e1.2.2⟩
  have hjn : ∀ (g : Nat → ByteArray) M, M ≤ 8 → (∀ i, i < M → (g i).size ≤ 5000000) → (jnK ⟨#[44, 32]⟩ g M).size ≤ 50000000 := fun g M hM hg => by
    have := jnK_size (sep := ⟨#[44, 32]⟩) (g := g) (C := 5000002) (w := fun _ => 1) (k := M) (fun i hi => by have := hg i hi; have : (⟨#[44, 32]⟩ : ByteArray).size = 2 := rfl; omega)
    have h1 : ∀ k, sumK (fun _ => 1) k = k := fun k => by
      induction k with
      | zero => rfl
      | succ k ih => unfold sumK; rw [ih]
    rw [h1] at this
    omega
  have hcl : (ts.getD n nd0).k = 33 → (ts.getD n nd0).l.length ≤ 8 ∧ (jnK ⟨#[44, 32]⟩ (fun i => chE (Ex ts) (ts.getD n nd0) i 1) (ts.getD n nd0).l.length).size ≤ 50000000 ∧
      ∀ i, i < (ts.getD n nd0).l.length → ∀ W, KB F0 w0 W → TxtCall 42 #[.slice a ts.length cap, .int .i64 ((ts.getD n nd0).l.getD i 0)] W (chE (Ex ts) (ts.getD n nd0) i 1) := fun e => by
    have e1 := h.call hi e
    refine ⟨e1.1, hjn _ _ e1.1 (fun i hi2 => ?_), fun i hi2 W hk => ?_⟩
    · have e2 := h.kid hi hi2
      unfold chE; rw [if_pos hi2]
      have := hsz _ 1 e2.2.1
      omega
    · have e2 := h.kid hi hi2
      have e3 := whole_of (.slice a ts.length cap) _ _ W (ih _ 1 W e2.1 e2.2.1 (by omega) hk (e1.2 i hi2))
      unfold chE; rw [if_pos hi2, e2.2.2]
      exact e3
  have hmk : (ts.getD n nd0).k = 34 → (ts.getD n nd0).l.length ≤ 8 ∧ (jnK ⟨#[44, 32]⟩ (iniE ts (Ex ts) (ts.getD n nd0)) (ts.getD n nd0).l.length).size ≤ 50000000 ∧
      ∀ i, i < (ts.getD n nd0).l.length → ∀ W X, KB F0 w0 W → W.heap[X]? = some (.cells #[.slice a ts.length cap] 62 (0, 0)) → TxtCall 106 #[.int .i64 ((ts.getD n nd0).l.getD i 0), .pointer (some ⟨X, 0, none⟩)] W (iniE ts (Ex ts) (ts.getD n nd0) i) := fun e => by
    have e1 := h.make hi e
    have hone : ∀ i, i < (ts.getD n nd0).l.length → ∃ q : Nat, (ts.getD (kid (ts.getD n nd0) i) nd0).l.length = 1 ∧ (ts.getD (kid (ts.getD n nd0) i) nd0).l.getD 0 0 = (q : Int) ∧ kid (ts.getD n nd0) i < q ∧ q < ts.length ∧ isExprB (ts.getD q nd0).k = true ∧
        iniE ts (Ex ts) (ts.getD n nd0) i = (ts.getD (kid (ts.getD n nd0) i) nd0).s ++ ⟨#[58, 32]⟩ ++ Ex ts q 1 := fun i hi2 => by
      have e2 := h.kid hi hi2
      have e4 := h.ex1 e2.2.1 (by have := e1.2 i hi2; omega)
      have e5 := h.kid e2.2.1 (i := 0) (by omega)
      refine ⟨_, e4.1, e5.2.2, e5.1, e5.2.1, e4.2, ?_⟩
      unfold iniE; rw [if_pos hi2]
      congr 1
      unfold chE; rw [if_pos (by omega)]
    refine ⟨e1.1, hjn _ _ e1.1 (fun i hi2 => ?_), fun i hi2 W X hk hX => ?_⟩
    · obtain ⟨q, f1, f2, f3, f4, f5, f6⟩ := hone i hi2
      have e2 := h.kid hi hi2
      have s1 := (h.txt e2.2.1).2.1
      have s2 := hsz q 1 f4
      have : (⟨#[58, 32]⟩ : ByteArray).size = 2 := rfl
      rw [f6, ByteArray.size_append, ByteArray.size_append]
      omega
    · obtain ⟨q, f1, f2, f3, f4, f5, f6⟩ := hone i hi2
      have e2 := h.kid hi hi2
      obtain ⟨b, off, rfl, hx⟩ := hts _ e2.2.1
      obtain ⟨la, lc, hl4, hints, hlc, hlm⟩ := hx.l
      obtain ⟨lb, lo, rfl, hcl⟩ := hints 0 (by omega)
      rw [f1] at hl4
      rw [f2, Nat.add_zero] at hcl
      rw [f6, e2.2.2]
      exact ini_any X b off ts.length cap _ _ lb lo lc q _ W (h.txt e2.2.1).2.1 (by have := hsz q 1 f4; omega) e2.2.1 (by omega) hX (hk.cell (p := ⟨b, _, none⟩) (fun x => x) hx.s) (hk.cell (p := ⟨b, _, none⟩) (fun x => x) hl4) (hk.cell (p := ⟨lb, lo, none⟩) (fun x => x) hcl)
        (fun W2 hk2 => whole_of _ _ _ W2 (ih _ 1 W2 (by omega) f4 (by omega) (hk.trans hk2) f5))
  obtain ⟨b, off, rfl, hx⟩ := hts n hi
  generalize ts.getD n nd0 = x at hx hr hex h1c h2c hcl hmk htx hxk hle
  obtain ⟨la, lc, hl4, hints, hlc, hlm⟩ := hx.l
  unfold maxLen at hlm
  obtain ⟨k, at_, m, s, l⟩ := x
  simp only at hr hex h1c h2c hcl hmk htx hl4 hints hlc hle
  obtain ⟨W1, hW1⟩ : ∃ W1, W1 = w0.alloc (.cells #[.slice (some ⟨b, off, none⟩) ts.length cap] 62) := ⟨_, rfl⟩
  have k1 : KB F0 w0 W1 := by rw [hW1]; exact (KB.refl _ _).alloc _
  have c0 : W1.cell? ⟨b, off + n * 5, none⟩ = some (.int .u8 (k : Nat)) := k1.cell (p := ⟨b, off + n * 5, none⟩) (fun x => x) hx.k
  have c1 : W1.cell? ⟨b, off + n * 5 + 1, none⟩ = some (.int .i64 at_) := k1.cell (p := ⟨b, off + n * 5 + 1, none⟩) (fun x => x) hx.at_
  have c2 : W1.cell? ⟨b, off + n * 5 + 2, none⟩ = some (.int .i64 m) := k1.cell (p := ⟨b, off + n * 5 + 2, none⟩) (fun x => x) hx.n
  have c3 : W1.cell? ⟨b, off + n * 5 + 3, none⟩ = some (.string s) := k1.cell (p := ⟨b, off + n * 5 + 3, none⟩) (fun x => x) hx.s
  have c4 := k1.cell (p := ⟨b, off + n * 5 + 4, none⟩) (fun x => x) hl4
  obtain ⟨N, hN⟩ : ∃ N, N = ts.length := ⟨_, rfl⟩
  rw [← hN] at hi hlen h1c h2c hcl hmk hsz hW1 ⊢
  have hiN : (n : Int) < (N : Int) := by omega
  obtain ⟨M, hM⟩ : ∃ M, M = l.length := ⟨_, rfl⟩
  obtain ⟨W2, hW2⟩ : ∃ W2, W2 = W1.alloc (.cells #[.int .u8 k, .int .i64 at_, .int .i64 m, .string s, .slice la M lc] 44) := ⟨_, rfl⟩
  rw [← hM] at hl4 hlc c4 h1c h2c hcl hmk
  have hb1 : W2.heap[w0.heap.size]? = some (.cells #[.slice (some ⟨b, off, none⟩) N cap] 62 (0, 0)) := by
    rw [hW2]
    exact ((KB.refl F0 W1).alloc _).heap (fun x => x) (by rw [hW1]; exact alloc_new _ _)
  have hs1 : W1.heap.size = w0.heap.size + 1 := by rw [hW1]; simp
  have hb2 : W2.heap[w0.heap.size + 1]? = some (.cells #[.int .u8 k, .int .i64 at_, .int .i64 m, .string s, .slice la M lc] 44 (0, 0)) := by rw [hW2, ← hs1]; exact alloc_new _ _
  have k2 : KB F0 w0 W2 := by rw [hW2]; exact k1.alloc _
  obtain ⟨own, ho⟩ : ∃ own, own = lvP k s := ⟨_, rfl⟩
  rw [← ho] at hle
  have hown := lv_le k s
  rw [← ho] at hown
  have LV := Lib.hid (fun (W : World) (hk : KB F0 w0 W) => level_any k (by have := hxk.k; exact this) at_ m s la M lc htx.2.2 W (hT.kb hk).asc)
  rw [← ho] at LV
  have HT := Lib.hid (fun (W : World) (hk : KB F0 w0 W) => hT.kb hk)
  have HK := Lib.hid (And.intro k2 (And.intro hb1 hb2))
  have HW := Lib.hid (And.intro hW2 hW1)
  have HI := Lib.hid (fun i (hi : i < M) => hints i (by rw [← hM]; exact hi))
  have HX := Lib.hid hxk
  have HTX := Lib.hid htx
  have HC1 := Lib.hid h1c
  have HC2 := Lib.hid h2c
  have HCL := Lib.hid hcl
  have HMK := Lib.hid hmk
  have HSZ := Lib.hid hsz
  have HR := Lib.hid hr
  have HO := Lib.hid ho
  have HM := Lib.hid hM
  have HOW := Lib.hid hown
  have d9 : decide (own < least) = false := decide_eq_false (by omega)
  have hcases := expr_cases hex
  clear hN hx hts ih h hsz hr ho hM hown hle hxk htx h1c h2c hcl hmk hjn hints hT hok k1 k2 hb1 hb2 hs1 hl4 hex
  unfold TxtCall
  go_enter Tryz.func70, Tryz.ntmps70
  rw [hW1] at c0 c1 c2 c3 c4
  go_wp2_with fail
  rw [← HW.out.2, ← HW.out.1]
  refine (LV.out W2 HK.out.1).mono ?_
  rintro e w3 ⟨rfl, k3⟩
  have hb1 := k3.heap (fun x => x) HK.out.2.1
  have hb2 := k3.heap (fun x => x) HK.out.2.2
  have hk3 := HK.out.1.trans k3
  clear c0 c1 c2 c3 c4 k3 hW1 hW2 LV HK HW
  have HK := Lib.hid (And.intro hk3 (And.intro hb1 hb2))
  have d0 : w3.cell? ⟨w0.heap.size + 1, 0, none⟩ = some (.int .u8 k) := blk_cell hb2 0
  have d2 : w3.cell? ⟨w0.heap.size + 1, 2, none⟩ = some (.int .i64 m) := blk_cell hb2 2
  have d3 : w3.cell? ⟨w0.heap.size + 1, 3, none⟩ = some (.string s) := blk_cell hb2 3
  have d4 : w3.cell? ⟨w0.heap.size + 1, 4, none⟩ = some (.slice la M lc) := blk_cell hb2 4
  have e0 : w3.cell? ⟨w0.heap.size, 0, none⟩ = some (.slice (some ⟨b, off, none⟩) N cap) := blk_cell hb1 0
  clear hb1 hb2 hk3 hlc
  rcases hcases with rfl | rfl | rfl | rfl | rfl | rfl | rfl | rfl | rfl | rfl | rfl | rfl | rfl
  · have hr2 : r = ⟨(Lib.itoa m).toArray⟩ := HR.out
    have FI := Lib.hid (fun (W : World) (hk : KB F0 w0 W) => Tryz.strconv_FormatInt_10 m HX.out.n1 HX.out.n2 W (HT.out W hk).pow)
    rw [← hr2] at FI
    clear hr2
    go_wp2_with fail
    refine (FI.out _ HK.out.1).mono ?_
    rintro e w4 ⟨rfl, hw⟩
    have K := Lib.hid (HK.out.1.trans (kb_grow hw))
    clear hw d0 d2 d3 d4 e0
    go_wp2_with fail
    go_ret
    exact ⟨rfl, K.out⟩
  · have hr2 : r = if m = 1 then ⟨#[116, 114, 117, 101]⟩ else ⟨#[102, 97, 108, 115, 101]⟩ := HR.out
    have FB := Lib.hid (Tryz.strconv_FormatBool (m == 1))
    have hfb : (⟨(Lib.formatBool (m == 1)).toArray⟩ : ByteArray) = r := by
      rw [hr2]
      by_cases h1 : m = 1
      · rw [if_pos h1, show (m == 1) = true by simp [h1]]; rfl
      · rw [if_neg h1, show (m == 1) = false by simp [h1]]; rfl
    rw [hfb] at FB
    clear hr2 hfb
    go_wp2_with fail
    refine (FB.out _).mono ?_
    rintro e w4 ⟨rfl, rfl⟩
    have K := Lib.hid HK.out.1
    clear d0 d2 d3 d4 e0
    go_wp2_with fail
    go_ret
    exact ⟨rfl, K.out⟩
  · have HE : Hid (r = s) := Lib.hid HR.out
    have K := Lib.hid HK.out.1
    go_wp2_with fail
    go_ret
    exact ⟨ret_eq (by rw [HE.out]; rfl), K.out⟩
  · -- a field
    obtain ⟨q, rfl, hq, hqN, hch, hc⟩ := HC1.out (by decide)
    obtain ⟨lb, lo, rfl, hcl⟩ := HI.out 0 (by decide)
    rw [hq, Nat.add_zero] at hcl
    have hcl := HK.out.1.cell (p := ⟨lb, lo, none⟩) (fun x => x) hcl
    have hz := HSZ.out q 7 hqN
    have hch := hch 7
    have CH := Lib.hid (fun (W : World) (hk : KB F0 w3 W) => child_any w0.heap.size (w0.heap.size + 1) (some ⟨b, off, none⟩) N cap #[] lb lo 1 lc q 7 _ W (by decide) (hk.heap (fun x => x) HK.out.2.1) (hk.cell (p := ⟨_, 4, none⟩) (fun x => x) (blk_cell HK.out.2.2 4)) (hk.cell (p := ⟨lb, lo, none⟩) (fun x => x) hcl) (fun W2 hk2 => hc 7 W2 (by decide) ((HK.out.1.trans hk).trans hk2)))
    generalize Ex ts q 7 = C at hz hch CH
    clear hcl hc hq hqN
    have hr2 : r = C ++ ⟨#[46]⟩ ++ s := by rw [HR.out]; show chE _ _ 0 7 ++ _ ++ _ = _; rw [hch]
    obtain ⟨A, hA⟩ : ∃ A : ByteArray, C ++ ⟨#[46]⟩ = A := ⟨_, rfl⟩
    have sA : A.size = C.size + 1 := by rw [← hA, ByteArray.size_append]; rfl
    rw [hA] at hr2
    have hr3 := hr2.symm
    have hss := HTX.out.2.1
    have z1 : ¬ (9223372036854775807 < C.size + 1) := by omega
    have z2 : ¬ (9223372036854775807 < A.size + s.size) := by omega
    clear hr2 hss sA hz hch
    go_wp2_with fail
    refine wp_region_rv 7 GK (kindW [(1, (fun v => v = .string C), (fun _ _ => True))]) (by kernel_rfl) (by kernel_rfl) (kb_trans _) (kb_refl _) (kb_start _ _) (kindW_mono _ (by intro p hp; simp only [List.mem_cons, List.not_mem_nil, or_false] at hp; (subst hp; exact lasts_true))) ?_
    simp only [List.take_succ_cons, List.take_zero, List.drop_succ_cons, List.drop_zero]
    refine rv_det (by kernel_rfl) rfl (by intro w hG hH; go_simp; first | done | with_reducible rfl) ?_
    simp only [Act.put, List.setIfInBounds_toArray, List.set_cons_zero, List.set_cons_succ]
    refine rv_rel (by kernel_rfl) rfl ⟨_, rfl⟩ (by
      intro w hG hH
      refine opVal_call (by go_simp; first | done | exact ⟨⟨rfl, rfl⟩, rfl⟩) ?_
      refine (CH.out _ hG).mono ?_
      rintro e w' ⟨rfl, hq⟩
      exact ⟨_, rfl, rfl, by first | (obtain ⟨nq, rfl⟩ := hq; exact (KB.refl _ _).drewN _) | (subst hq; exact KB.refl _ _) | exact hq, trivial⟩) ?_
    rintro v rfl
    simp only [Act.put, List.setIfInBounds_toArray, List.set_cons_zero, List.set_cons_succ]
    iterate 5 (refine rv_det (by kernel_rfl) rfl (by intro w hG hH; have hc0 := KB.cell hG (fun x => x) (d3); go_simp; first | done | with_reducible rfl) ?_; simp only [Act.put, List.setIfInBounds_toArray, List.set_cons_zero, List.set_cons_succ])
    refine rv_nil (fun w hG hH => ?_)
    have K := Lib.hid (HK.out.1.trans hG)
    clear hG hH d0 d2 d3 d4 e0
    go_wp2_with fail
    go_ret
    exact ⟨rfl, K.out⟩
  · -- *
    obtain ⟨q, rfl, hq, hqN, hch, hc⟩ := HC1.out (by decide)
    obtain ⟨lb, lo, rfl, hcl⟩ := HI.out 0 (by decide)
    rw [hq, Nat.add_zero] at hcl
    have hcl := HK.out.1.cell (p := ⟨lb, lo, none⟩) (fun x => x) hcl
    have hz := HSZ.out q 6 hqN
    have hch := hch 6
    have CH := Lib.hid (fun (W : World) (hk : KB F0 w3 W) => child_any w0.heap.size (w0.heap.size + 1) (some ⟨b, off, none⟩) N cap #[] lb lo 1 lc q 6 _ W (by decide) (hk.heap (fun x => x) HK.out.2.1) (hk.cell (p := ⟨_, 4, none⟩) (fun x => x) (blk_cell HK.out.2.2 4)) (hk.cell (p := ⟨lb, lo, none⟩) (fun x => x) hcl) (fun W2 hk2 => hc 6 W2 (by decide) ((HK.out.1.trans hk).trans hk2)))
    generalize Ex ts q 6 = C at hz hch CH
    clear hcl hc hq hqN
    have hr3 : ⟨#[42]⟩ ++ C = r := by rw [HR.out]; show _ = _ ++ chE _ _ 0 6; rw [hch]
    have z1 : ¬ (9223372036854775807 < 1 + C.size) := by omega
    clear hz hch
    go_wp2_with fail
    refine (CH.out w3 (KB.refl _ _)).mono ?_
    rintro e w4 ⟨rfl, k4⟩
    have K := Lib.hid (HK.out.1.trans k4)
    clear k4 d0 d2 d3 d4 e0
    go_wp2_with fail
    go_ret
    exact ⟨rfl, K.out⟩
  · -- a reference
    obtain ⟨q, rfl, hq, hqN, hch, hc⟩ := HC1.out (by decide)
    obtain ⟨lb, lo, rfl, hcl⟩ := HI.out 0 (by decide)
    rw [hq, Nat.add_zero] at hcl
    have hcl := HK.out.1.cell (p := ⟨lb, lo, none⟩) (fun x => x) hcl
    have hz := HSZ.out q 6 hqN
    have hch := hch 6
    have CH := Lib.hid (fun (W : World) (hk : KB F0 w3 W) => child_any w0.heap.size (w0.heap.size + 1) (some ⟨b, off, none⟩) N cap #[] lb lo 1 lc q 6 _ W (by decide) (hk.heap (fun x => x) HK.out.2.1) (hk.cell (p := ⟨_, 4, none⟩) (fun x => x) (blk_cell HK.out.2.2 4)) (hk.cell (p := ⟨lb, lo, none⟩) (fun x => x) hcl) (fun W2 hk2 => hc 6 W2 (by decide) ((HK.out.1.trans hk).trans hk2)))
    generalize Ex ts q 6 = C at hz hch CH
    clear hcl hc hq hqN
    have hr3 : r = ampB ByteArray.empty (m == 1) C := by rw [HR.out]; show ampB _ _ (chE _ _ 0 6) = _; rw [hch]
    have AM := Lib.hid (fun (W : World) => amp_any ByteArray.empty C (m == 1) W (by decide) (by omega))
    rw [← hr3] at AM
    obtain ⟨mb, hmb⟩ : ∃ mb, (m == 1) = mb := ⟨_, rfl⟩
    rw [hmb] at AM
    clear hr3 hz hch
    go_wp2_with fail
    refine wp_region_rv 7 GK (kindW [(4, (fun v => v = .string C), (fun _ _ => True)), (5, (fun v => v = .string r), (fun _ _ => True))]) (by kernel_rfl) (by kernel_rfl) (kb_trans _) (kb_refl _) (kb_start _ _) (kindW_mono _ (by intro p hp; simp only [List.mem_cons, List.not_mem_nil, or_false] at hp; (rcases hp with rfl | rfl <;> exact lasts_true))) ?_
    simp only [List.take_succ_cons, List.take_zero, List.drop_succ_cons, List.drop_zero]
    iterate 4 (refine rv_det (by kernel_rfl) rfl (by intro w hG hH; have hc0 := KB.cell hG (fun x => x) (d2); go_simp; first | done | with_reducible rfl) ?_; simp only [Act.put, List.setIfInBounds_toArray, List.set_cons_zero, List.set_cons_succ])
    refine rv_rel (by kernel_rfl) rfl ⟨_, rfl⟩ (by
      intro w hG hH
      refine opVal_call (by go_simp; first | done | exact ⟨⟨rfl, rfl⟩, rfl⟩) ?_
      refine (CH.out _ hG).mono ?_
      rintro e w' ⟨rfl, hq⟩
      exact ⟨_, rfl, rfl, by first | (obtain ⟨nq, rfl⟩ := hq; exact (KB.refl _ _).drewN _) | (subst hq; exact KB.refl _ _) | exact hq, trivial⟩) ?_
    rintro v rfl
    simp only [Act.put, List.setIfInBounds_toArray, List.set_cons_zero, List.set_cons_succ]
    refine rv_rel (by kernel_rfl) rfl ⟨_, rfl⟩ (by
      intro w hG hH
      refine opVal_call (by go_simp; first | done | exact ⟨⟨rfl, rfl⟩, rfl⟩) ?_
      refine (AM.out _).mono ?_
      rintro e w' ⟨rfl, hq⟩
      exact ⟨_, rfl, rfl, by first | (obtain ⟨nq, rfl⟩ := hq; exact (KB.refl _ _).drewN _) | (subst hq; exact KB.refl _ _) | exact hq, trivial⟩) ?_
    rintro v rfl
    simp only [Act.put, List.setIfInBounds_toArray, List.set_cons_zero, List.set_cons_succ]
    refine rv_det (by kernel_rfl) rfl (by intro w hG hH; go_simp; first | done | with_reducible rfl) ?_
    simp only [Act.put, List.setIfInBounds_toArray, List.set_cons_zero, List.set_cons_succ]
    refine rv_nil (fun w hG hH => ?_)
    have K := Lib.hid (HK.out.1.trans hG)
    clear hG hH d0 d2 d3 d4 e0
    go_wp2_with fail
    go_ret
    exact ⟨rfl, K.out⟩
  · -- -
    obtain ⟨q, rfl, hq, hqN, hch, hc⟩ := HC1.out (by decide)
    obtain ⟨lb, lo, rfl, hcl⟩ := HI.out 0 (by decide)
    rw [hq, Nat.add_zero] at hcl
    have hcl := HK.out.1.cell (p := ⟨lb, lo, none⟩) (fun x => x) hcl
    have hz := HSZ.out q 6 hqN
    have hch := hch 6
    have CH := Lib.hid (fun (W : World) (hk : KB F0 w3 W) => child_any w0.heap.size (w0.heap.size + 1) (some ⟨b, off, none⟩) N cap #[] lb lo 1 lc q 6 _ W (by decide) (hk.heap (fun x => x) HK.out.2.1) (hk.cell (p := ⟨_, 4, none⟩) (fun x => x) (blk_cell HK.out.2.2 4)) (hk.cell (p := ⟨lb, lo, none⟩) (fun x => x) hcl) (fun W2 hk2 => hc 6 W2 (by decide) ((HK.out.1.trans hk).trans hk2)))
    generalize Ex ts q 6 = C at hz hch CH
    clear hcl hc hq hqN
    have hr3 : ⟨#[45]⟩ ++ C = r := by rw [HR.out]; show _ = _ ++ chE _ _ 0 6; rw [hch]
    have z1 : ¬ (9223372036854775807 < 1 + C.size) := by omega
    clear hz hch
    go_wp2_with fail
    refine (CH.out w3 (KB.refl _ _)).mono ?_
    rintro e w4 ⟨rfl, k4⟩
    have K := Lib.hid (HK.out.1.trans k4)
    clear k4 d0 d2 d3 d4 e0
    go_wp2_with fail
    go_ret
    exact ⟨rfl, K.out⟩
  · -- !
    obtain ⟨q, rfl, hq, hqN, hch, hc⟩ := HC1.out (by decide)
    obtain ⟨lb, lo, rfl, hcl⟩ := HI.out 0 (by decide)
    rw [hq, Nat.add_zero] at hcl
    have hcl := HK.out.1.cell (p := ⟨lb, lo, none⟩) (fun x => x) hcl
    have hz := HSZ.out q 6 hqN
    have hch := hch 6
    have CH := Lib.hid (fun (W : World) (hk : KB F0 w3 W) => child_any w0.heap.size (w0.heap.size + 1) (some ⟨b, off, none⟩) N cap #[] lb lo 1 lc q 6 _ W (by decide) (hk.heap (fun x => x) HK.out.2.1) (hk.cell (p := ⟨_, 4, none⟩) (fun x => x) (blk_cell HK.out.2.2 4)) (hk.cell (p := ⟨lb, lo, none⟩) (fun x => x) hcl) (fun W2 hk2 => hc 6 W2 (by decide) ((HK.out.1.trans hk).trans hk2)))
    generalize Ex ts q 6 = C at hz hch CH
    clear hcl hc hq hqN
    have hr3 : ⟨#[33]⟩ ++ C = r := by rw [HR.out]; show _ = _ ++ chE _ _ 0 6; rw [hch]
    have z1 : ¬ (9223372036854775807 < 1 + C.size) := by omega
    clear hz hch
    go_wp2_with fail
    refine (CH.out w3 (KB.refl _ _)).mono ?_
    rintro e w4 ⟨rfl, k4⟩
    have K := Lib.hid (HK.out.1.trans k4)
    clear k4 d0 d2 d3 d4 e0
    go_wp2_with fail
    go_ret
    exact ⟨rfl, K.out⟩
  · -- a sign between two
    obtain ⟨q, q2, rfl, hq, hq2, hqN, hqN2, hch, hch2, hc, hc2⟩ := HC2.out rfl
    obtain ⟨lb, lo, rfl, hcl⟩ := HI.out 0 (by decide)
    obtain ⟨lb2, lo2, e3, hcl2⟩ := HI.out 1 (by decide)
    simp only [Option.some.injEq, Addr.mk.injEq, and_true] at e3
    obtain ⟨rfl, rfl⟩ := e3
    rw [hq, Nat.add_zero] at hcl
    rw [hq2] at hcl2
    have hcl := HK.out.1.cell (p := ⟨lb, lo, none⟩) (fun x => x) hcl
    have hcl2 := HK.out.1.cell (p := ⟨lb, lo + 1, none⟩) (fun x => x) hcl2
    have ho5 := HOW.out.2 rfl
    obtain ⟨lf, hlf⟩ : ∃ lf : Nat, lf = if own = 3 then 4 else own := ⟨_, rfl⟩
    have hlf8 : lf ≤ 8 := by rw [hlf]; split <;> omega
    have hz := HSZ.out q lf hqN
    have hz2 := HSZ.out q2 (own + 1) hqN2
    have hr2 : r = Ex ts q lf ++ ⟨#[32]⟩ ++ s ++ ⟨#[32]⟩ ++ Ex ts q2 (own + 1) := by
      have h1 := HR.out
      have h2 : bareN ⟨32, at_, m, s, l⟩ (chE (Ex ts) ⟨32, at_, m, s, l⟩) (iniE ts (Ex ts) ⟨32, at_, m, s, l⟩) = chE (Ex ts) ⟨32, at_, m, s, l⟩ 0 (if lvP 32 s = 3 then 4 else lvP 32 s) ++ ⟨#[32]⟩ ++ s ++ ⟨#[32]⟩ ++ chE (Ex ts) ⟨32, at_, m, s, l⟩ 1 (lvP 32 s + 1) := rfl
      rw [h1, h2, hch, hch2, ← HO.out, ← hlf]
    have CH := Lib.hid (fun (W : World) (hk : KB F0 w3 W) => child_any w0.heap.size (w0.heap.size + 1) (some ⟨b, off, none⟩) N cap #[] lb lo 2 lc q lf _ W (by decide) (hk.heap (fun x => x) HK.out.2.1) (hk.cell (p := ⟨_, 4, none⟩) (fun x => x) (blk_cell HK.out.2.2 4)) (hk.cell (p := ⟨lb, lo, none⟩) (fun x => x) hcl) (fun W2 hk2 => hc lf W2 hlf8 ((HK.out.1.trans hk).trans hk2)))
    have C2 := Lib.hid (fun (W : World) (hk : KB F0 w3 W) => hc2 (own + 1) W (by omega) (HK.out.1.trans hk))
    generalize Ex ts q lf = C at hz hr2 CH
    generalize Ex ts q2 (own + 1) = D at hz2 hr2 C2
    have hss := HTX.out.2.1
    obtain ⟨A1, hA1⟩ : ∃ A : ByteArray, C ++ ⟨#[32]⟩ = A := ⟨_, rfl⟩
    obtain ⟨A2, hA2⟩ : ∃ A : ByteArray, A1 ++ s = A := ⟨_, rfl⟩
    obtain ⟨A3, hA3⟩ : ∃ A : ByteArray, A2 ++ ⟨#[32]⟩ = A := ⟨_, rfl⟩
    have s1 : A1.size = C.size + 1 := by rw [← hA1, ByteArray.size_append]; rfl
    have s2 : A2.size = A1.size + s.size := by rw [← hA2, ByteArray.size_append]
    have s3 : A3.size = A2.size + 1 := by rw [← hA3, ByteArray.size_append]; rfl
    rw [hA1, hA2, hA3] at hr2
    have hr3 := hr2.symm
    have z1 : ¬ (9223372036854775807 < C.size + 1) := by omega
    have z2 : ¬ (9223372036854775807 < A1.size + s.size) := by omega
    have z3 : ¬ (9223372036854775807 < A2.size + 1) := by omega
    have z4 : ¬ (9223372036854775807 < A3.size + D.size) := by omega
    have w1 : IntKind.i64.wrap ((own : Int) + 1) = ((own + 1 : Nat) : Int) := by rw [w64 (by omega) (by omega)]; omega
    have HL := Lib.hid hlf
    unfold TxtCall at C2
    clear hr2 hss s1 s2 s3 hz hz2 hch hch2 hc hc2 hq hq2 hqN hqN2 hlf hlf8
    have HLF : Hid (lf = if own = 3 then 4 else own) := HL
    clear HL ho5
    by_cases h3 : own = 3
    · have t3 : ((own : Int) == 3) = true := by simp; omega
      obtain rfl : lf = own + 1 := by rw [HLF.out, if_pos h3]; omega
      clear h3 HLF
      go_wp2_with fail
      refine wp_region_rv 18 GK (kindW [(2, (fun v => v = .string C), (fun _ _ => True)), (15, (fun v => v = .string D), (fun _ _ => True))]) (by kernel_rfl) (by kernel_rfl) (kb_trans _) (kb_refl _) (kb_start _ _) (kindW_mono _ (by intro p hp; simp only [List.mem_cons, List.not_mem_nil, or_false] at hp; (rcases hp with rfl | rfl <;> exact lasts_true))) ?_
      simp only [List.take_succ_cons, List.take_zero, List.drop_succ_cons, List.drop_zero]
      iterate 2 (refine rv_det (by kernel_rfl) rfl (by intro w hG hH; go_simp; first | done | with_reducible rfl) ?_; simp only [Act.put, List.setIfInBounds_toArray, List.set_cons_zero, List.set_cons_succ])
      refine rv_rel (by kernel_rfl) rfl ⟨_, rfl⟩ (by
        intro w hG hH
        refine opVal_call (by go_simp; first | done | exact ⟨⟨rfl, rfl⟩, rfl⟩) ?_
        refine (CH.out _ hG).mono ?_
        rintro e w' ⟨rfl, hq⟩
        exact ⟨_, rfl, rfl, by first | (obtain ⟨nq, rfl⟩ := hq; exact (KB.refl _ _).drewN _) | (subst hq; exact KB.refl _ _) | exact hq, trivial⟩) ?_
      rintro v rfl
      simp only [Act.put, List.setIfInBounds_toArray, List.set_cons_zero, List.set_cons_succ]
      iterate 12 (refine rv_det (by kernel_rfl) rfl (by intro w hG hH; have hc0 := KB.cell hG (fun x => x) (d3); have hc1 := KB.cell hG (fun x => x) (d4); have hc2 := KB.cell hG (fun x => x) (e0); have hc3 := KB.cell hG (fun x => x) (hcl2); go_simp; first | done | with_reducible rfl) ?_; simp only [Act.put, List.setIfInBounds_toArray, List.set_cons_zero, List.set_cons_succ])
      refine rv_rel (by kernel_rfl) rfl ⟨_, rfl⟩ (by
        intro w hG hH
        refine opVal_call (by go_simp; first | done | exact ⟨⟨rfl, rfl⟩, rfl⟩) ?_
        refine (C2.out _ hG).mono ?_
        rintro e w' ⟨rfl, hq⟩
        exact ⟨_, rfl, rfl, by first | (obtain ⟨nq, rfl⟩ := hq; exact (KB.refl _ _).drewN _) | (subst hq; exact KB.refl _ _) | exact hq, trivial⟩) ?_
      rintro v rfl
      simp only [Act.put, List.setIfInBounds_toArray, List.set_cons_zero, List.set_cons_succ]
      iterate 2 (refine rv_det (by kernel_rfl) rfl (by intro w hG hH; go_simp; first | done | with_reducible rfl) ?_; simp only [Act.put, List.setIfInBounds_toArray, List.set_cons_zero, List.set_cons_succ])
      refine rv_nil (fun w hG hH => ?_)
      have K := Lib.hid (HK.out.1.trans hG)
      clear hG hH d0 d2 d3 d4 e0
      go_wp2_with fail
      go_ret
      exact ⟨rfl, K.out⟩
    · have t3 : ((own : Int) == 3) = false := by simp; omega
      obtain rfl : lf = own := by rw [HLF.out, if_neg h3]
      clear h3 HLF
      go_wp2_with fail
      refine wp_region_rv 18 GK (kindW [(2, (fun v => v = .string C), (fun _ _ => True)), (15, (fun v => v = .string D), (fun _ _ => True))]) (by kernel_rfl) (by kernel_rfl) (kb_trans _) (kb_refl _) (kb_start _ _) (kindW_mono _ (by intro p hp; simp only [List.mem_cons, List.not_mem_nil, or_false] at hp; (rcases hp with rfl | rfl <;> exact lasts_true))) ?_
      simp only [List.take_succ_cons, List.take_zero, List.drop_succ_cons, List.drop_zero]
      iterate 2 (refine rv_det (by kernel_rfl) rfl (by intro w hG hH; go_simp; first | done | with_reducible rfl) ?_; simp only [Act.put, List.setIfInBounds_toArray, List.set_cons_zero, List.set_cons_succ])
      refine rv_rel (by kernel_rfl) rfl ⟨_, rfl⟩ (by
        intro w hG hH
        refine opVal_call (by go_simp; first | done | exact ⟨⟨rfl, rfl⟩, rfl⟩) ?_
        refine (CH.out _ hG).mono ?_
        rintro e w' ⟨rfl, hq⟩
        exact ⟨_, rfl, rfl, by first | (obtain ⟨nq, rfl⟩ := hq; exact (KB.refl _ _).drewN _) | (subst hq; exact KB.refl _ _) | exact hq, trivial⟩) ?_
      rintro v rfl
      simp only [Act.put, List.setIfInBounds_toArray, List.set_cons_zero, List.set_cons_succ]
      iterate 12 (refine rv_det (by kernel_rfl) rfl (by intro w hG hH; have hc0 := KB.cell hG (fun x => x) (d3); have hc1 := KB.cell hG (fun x => x) (d4); have hc2 := KB.cell hG (fun x => x) (e0); have hc3 := KB.cell hG (fun x => x) (hcl2); go_simp; first | done | with_reducible rfl) ?_; simp only [Act.put, List.setIfInBounds_toArray, List.set_cons_zero, List.set_cons_succ])
      refine rv_rel (by kernel_rfl) rfl ⟨_, rfl⟩ (by
        intro w hG hH
        refine opVal_call (by go_simp; first | done | exact ⟨⟨rfl, rfl⟩, rfl⟩) ?_
        refine (C2.out _ hG).mono ?_
        rintro e w' ⟨rfl, hq⟩
        exact ⟨_, rfl, rfl, by first | (obtain ⟨nq, rfl⟩ := hq; exact (KB.refl _ _).drewN _) | (subst hq; exact KB.refl _ _) | exact hq, trivial⟩) ?_
      rintro v rfl
      simp only [Act.put, List.setIfInBounds_toArray, List.set_cons_zero, List.set_cons_succ]
      iterate 2 (refine rv_det (by kernel_rfl) rfl (by intro w hG hH; go_simp; first | done | with_reducible rfl) ?_; simp only [Act.put, List.setIfInBounds_toArray, List.set_cons_zero, List.set_cons_succ])
      refine rv_nil (fun w hG hH => ?_)
      have K := Lib.hid (HK.out.1.trans hG)
      clear hG hH d0 d2 d3 d4 e0
      go_wp2_with fail
      go_ret
      exact ⟨rfl, K.out⟩
  · -- a call
    have hcl := HCL.out rfl
    have hr2 : r = s ++ ⟨#[40]⟩ ++ jnK ⟨#[44, 32]⟩ (fun i => chE (Ex ts) ⟨33, at_, m, s, l⟩ i 1) M ++ ⟨#[41]⟩ := by rw [HR.out, HM.out]; rfl
    have TB := Lib.hid (fun (W : World) (hk : KB F0 w3 W) => told_bound (.slice (some ⟨b, off, none⟩) N cap) la M lc (fun i => l.getD i 0) ⟨#[44, 32]⟩ 42 (.slice (some ⟨b, off, none⟩) N cap) (fun i => chE (Ex ts) ⟨33, at_, m, s, l⟩ i 1) W (by have := hcl.1; omega)
      (fun i hi => by
        obtain ⟨lb, lo, e, hc⟩ := HI.out i hi
        exact ⟨lb, lo, e, (HK.out.1.trans hk).cell (p := ⟨lb, lo + i, none⟩) (fun x => x) hc⟩)
      (fun i hi W2 hk2 => hcl.2.2 i hi W2 ((HK.out.1.trans hk).trans hk2)) (by have := hcl.2.1; omega) (enters Tryz.func42 (by kernel_rfl) (by kernel_rfl)))
    have hz := hcl.2.1
    generalize jnK ⟨#[44, 32]⟩ (fun i => chE (Ex ts) ⟨33, at_, m, s, l⟩ i 1) M = C at hr2 TB hz
    have hss := HTX.out.2.1
    obtain ⟨A1, hA1⟩ : ∃ A : ByteArray, s ++ ⟨#[40]⟩ = A := ⟨_, rfl⟩
    obtain ⟨A2, hA2⟩ : ∃ A : ByteArray, A1 ++ C = A := ⟨_, rfl⟩
    have s1 : A1.size = s.size + 1 := by rw [← hA1, ByteArray.size_append]; rfl
    have s2 : A2.size = A1.size + C.size := by rw [← hA2, ByteArray.size_append]
    rw [hA1, hA2] at hr2
    have hr3 := hr2.symm
    have z1 : ¬ (9223372036854775807 < s.size + 1) := by omega
    have z2 : ¬ (9223372036854775807 < A1.size + C.size) := by omega
    have z3 : ¬ (9223372036854775807 < A2.size + 1) := by omega
    clear hr2 hss s1 s2 hz hcl
    go_wp2_with fail
    refine wp_region_rv 12 GK (kindW [(8, (fun v => v = .string C), (fun _ _ => True))]) (by kernel_rfl) (by kernel_rfl) (kb_trans _) (kb_refl _) (kb_start _ _) (kindW_mono _ (by intro p hp; simp only [List.mem_cons, List.not_mem_nil, or_false] at hp; (subst hp; exact lasts_true))) ?_
    simp only [List.take_succ_cons, List.take_zero, List.drop_succ_cons, List.drop_zero]
    iterate 8 (refine rv_det (by kernel_rfl) rfl (by intro w hG hH; have hc0 := KB.cell hG (fun x => x) (d3); have hc1 := KB.cell hG (fun x => x) (d4); have hc2 := KB.cell hG (fun x => x) (e0); go_simp; first | done | with_reducible rfl) ?_; simp only [Act.put, List.setIfInBounds_toArray, List.set_cons_zero, List.set_cons_succ])
    refine rv_rel (by kernel_rfl) rfl ⟨_, rfl⟩ (by
      intro w hG hH
      refine opVal_call (by go_simp; first | done | exact ⟨⟨rfl, rfl⟩, rfl⟩) ?_
      refine (TB.out _ hG).mono ?_
      rintro e w' ⟨rfl, hq⟩
      exact ⟨_, rfl, rfl, by first | (obtain ⟨nq, rfl⟩ := hq; exact (KB.refl _ _).drewN _) | (subst hq; exact KB.refl _ _) | exact hq, trivial⟩) ?_
    rintro v rfl
    simp only [Act.put, List.setIfInBounds_toArray, List.set_cons_zero, List.set_cons_succ]
    iterate 3 (refine rv_det (by kernel_rfl) rfl (by intro w hG hH; go_simp; first | done | with_reducible rfl) ?_; simp only [Act.put, List.setIfInBounds_toArray, List.set_cons_zero, List.set_cons_succ])
    refine rv_nil (fun w hG hH => ?_)
    have K := Lib.hid (HK.out.1.trans hG)
    clear hG hH d0 d2 d3 d4 e0
    go_wp2_with fail
    go_ret
    exact ⟨rfl, K.out⟩
  · -- a struct that is made
    have hcl := HMK.out rfl
    have hr2 : r = s ++ ⟨#[32, 123, 32]⟩ ++ jnK ⟨#[44, 32]⟩ (iniE ts (Ex ts) ⟨34, at_, m, s, l⟩) M ++ ⟨#[32, 125]⟩ := by rw [HR.out, HM.out]; rfl
    have TB := Lib.hid (fun (W : World) (hk : KB F0 w3 W) => told_cap (.slice (some ⟨b, off, none⟩) N cap) la M lc (fun i => l.getD i 0) ⟨#[44, 32]⟩ 106 (.pointer (some ⟨w0.heap.size, 0, none⟩)) (iniE ts (Ex ts) ⟨34, at_, m, s, l⟩) W (by have := hcl.1; omega)
      (fun i hi => by
        obtain ⟨lb, lo, e, hc⟩ := HI.out i hi
        exact ⟨lb, lo, e, (HK.out.1.trans hk).cell (p := ⟨lb, lo + i, none⟩) (fun x => x) hc⟩)
      (fun i hi W2 hk2 => hcl.2.2 i hi W2 _ ((HK.out.1.trans hk).trans hk2) ((hk.trans hk2).heap (fun x => x) HK.out.2.1)) (by have := hcl.2.1; omega) (enters Tryz.func106 (by kernel_rfl) (by kernel_rfl)))
    have hz := hcl.2.1
    generalize jnK ⟨#[44, 32]⟩ (iniE ts (Ex ts) ⟨34, at_, m, s, l⟩) M = C at hr2 TB hz
    have hss := HTX.out.2.1
    obtain ⟨A1, hA1⟩ : ∃ A : ByteArray, s ++ ⟨#[32, 123, 32]⟩ = A := ⟨_, rfl⟩
    obtain ⟨A2, hA2⟩ : ∃ A : ByteArray, A1 ++ C = A := ⟨_, rfl⟩
    have s1 : A1.size = s.size + 3 := by rw [← hA1, ByteArray.size_append]; rfl
    have s2 : A2.size = A1.size + C.size := by rw [← hA2, ByteArray.size_append]
    rw [hA1, hA2] at hr2
    have hr3 := hr2.symm
    have z1 : ¬ (9223372036854775807 < s.size + 3) := by omega
    have z2 : ¬ (9223372036854775807 < A1.size + C.size) := by omega
    have z3 : ¬ (9223372036854775807 < A2.size + 2) := by omega
    clear hr2 hss s1 s2 hz hcl
    go_wp2_with fail
    refine wp_region_rv 11 GK (kindW [(7, (fun v => v = .string C), (fun _ _ => True))]) (by kernel_rfl) (by kernel_rfl) (kb_trans _) (kb_refl _) (kb_start _ _) (kindW_mono _ (by intro p hp; simp only [List.mem_cons, List.not_mem_nil, or_false] at hp; (subst hp; exact lasts_true))) ?_
    simp only [List.take_succ_cons, List.take_zero, List.drop_succ_cons, List.drop_zero]
    iterate 7 (refine rv_det (by kernel_rfl) rfl (by intro w hG hH; have hc0 := KB.cell hG (fun x => x) (d3); have hc1 := KB.cell hG (fun x => x) (d4); have hc2 := KB.cell hG (fun x => x) (e0); go_simp; first | done | with_reducible rfl) ?_; simp only [Act.put, List.setIfInBounds_toArray, List.set_cons_zero, List.set_cons_succ])
    refine rv_rel (by kernel_rfl) rfl ⟨_, rfl⟩ (by
      intro w hG hH
      refine opVal_call (by go_simp; first | done | exact ⟨⟨rfl, rfl⟩, rfl⟩) ?_
      refine (TB.out _ hG).mono ?_
      rintro e w' ⟨rfl, hq⟩
      exact ⟨_, rfl, rfl, by first | (obtain ⟨nq, rfl⟩ := hq; exact (KB.refl _ _).drewN _) | (subst hq; exact KB.refl _ _) | exact hq, trivial⟩) ?_
    rintro v rfl
    simp only [Act.put, List.setIfInBounds_toArray, List.set_cons_zero, List.set_cons_succ]
    iterate 3 (refine rv_det (by kernel_rfl) rfl (by intro w hG hH; go_simp; first | done | with_reducible rfl) ?_; simp only [Act.put, List.setIfInBounds_toArray, List.set_cons_zero, List.set_cons_succ])
    refine rv_nil (fun w hG hH => ?_)
    have K := Lib.hid (HK.out.1.trans hG)
    clear hG hH d0 d2 d3 d4 e0
    go_wp2_with fail
    go_ret
    exact ⟨rfl, K.out⟩
  · -- a box
    obtain ⟨q, rfl, hq, hqN, hch, hc⟩ := HC1.out (by decide)
    obtain ⟨lb, lo, rfl, hcl⟩ := HI.out 0 (by decide)
    rw [hq, Nat.add_zero] at hcl
    have hcl := HK.out.1.cell (p := ⟨lb, lo, none⟩) (fun x => x) hcl
    have hz := HSZ.out q 1 hqN
    have hch := hch 1
    have CH := Lib.hid (fun (W : World) (hk : KB F0 w3 W) => child_any w0.heap.size (w0.heap.size + 1) (some ⟨b, off, none⟩) N cap #[] lb lo 1 lc q 1 _ W (by decide) (hk.heap (fun x => x) HK.out.2.1) (hk.cell (p := ⟨_, 4, none⟩) (fun x => x) (blk_cell HK.out.2.2 4)) (hk.cell (p := ⟨lb, lo, none⟩) (fun x => x) hcl) (fun W2 hk2 => hc 1 W2 (by decide) ((HK.out.1.trans hk).trans hk2)))
    generalize Ex ts q 1 = C at hz hch CH
    clear hcl hc hq hqN
    have hr2 : r = ⟨#[98, 111, 120, 40]⟩ ++ C ++ ⟨#[41]⟩ := by rw [HR.out]; show _ ++ chE _ _ 0 1 ++ _ = _; rw [hch]
    obtain ⟨A, hA⟩ : ∃ A : ByteArray, ⟨#[98, 111, 120, 40]⟩ ++ C = A := ⟨_, rfl⟩
    have sA : A.size = 4 + C.size := by rw [← hA, ByteArray.size_append]; rfl
    rw [hA] at hr2
    have hr3 := hr2.symm
    have z1 : ¬ (9223372036854775807 < 4 + C.size) := by omega
    have z2 : ¬ (9223372036854775807 < A.size + 1) := by omega
    clear hr2 sA hz hch
    go_wp2_with fail
    refine (CH.out w3 (KB.refl _ _)).mono ?_
    rintro e w4 ⟨rfl, k4⟩
    have K := Lib.hid (HK.out.1.trans k4)
    clear k4 d0 d2 d3 d4 e0
    go_wp2_with fail
    go_ret
    exact ⟨rfl, K.out⟩
  · have hr2 : r = ⟨#[114, 101, 97, 100, 40, 41]⟩ := HR.out
    have K := Lib.hid HK.out.1
    have HE := Lib.hid hr2
    clear hr2
    go_wp2_with fail
    go_ret
    exact ⟨ret_eq (by rw [HE.out]; rfl), K.out⟩

set_option maxRecDepth 100000 in
set_option maxHeartbeats 4000000 in
theorem expr_all (ts : List Nd) (h : TOk ts) (hok : ∀ x ∈ ts, NdOk x) (a : Option Addr) (cap f : Nat) : ∀ (n least : Nat) (w : World), n < ts.length → ts.length ≤ n + f → least ≤ 8 → NodesAt w a ts → PT w → isExprB (ts.getD n nd0).k = true →
    TxtCall 70 #[.slice a ts.length cap, .int .i64 n, .int .i64 least] w (Ex ts n least) := by
  induction f with
  | zero => intro n least w h1 h2; omega
  | succ f ih =>
    intro n least w hi hf hl hts hT hex
    have hB := fun (l : Nat) (W : World) (hk : KB F0 w W) (hle : l ≤ lvP (ts.getD n nd0).k (ts.getD n nd0).s) => expr_bare ts h hok a cap n hi W (hts.kbF hk) (hT.kb hk) hex
      (fun q l2 W2 h1 h2 h3 h4 h5 => ih q l2 W2 h2 (by omega) h3 (hts.kbF (hk.trans h4)) (hT.kb (hk.trans h4)) h5) l hle
    have hsz := Ex_size h hok least hi
    have hwt := wt1_pos h.good hi
    have hlen := h.len
    rw [Ex_eq h.down hi] at hsz ⊢
    unfold wrapN at hsz ⊢
    by_cases hlt : lvP (ts.getD n nd0).k (ts.getD n nd0).s < least
    · rw [if_pos hlt] at hsz ⊢
      have LV := Lib.hid (fun (W : World) (hk : KB F0 w W) (at_ m : Int) (la : Option Addr) (ll lc : Nat) => level_any (ts.getD n nd0).k (hok _ (getD_memN hi)).k at_ m (ts.getD n nd0).s la ll lc (h.txt hi).2.2 W (hT.kb hk).asc)
      have HB := Lib.hid (fun (W : World) (hk : KB F0 w W) => hB _ W hk (Nat.le_refl _))
      have hown := lv_le (ts.getD n nd0).k (ts.getD n nd0).s
      generalize lvP (ts.getD n nd0).k (ts.getD n nd0).s = own at LV HB hlt hown
      generalize bareN (ts.getD n nd0) (chE (Ex ts) (ts.getD n nd0)) (iniE ts (Ex ts) (ts.getD n nd0)) = B at HB hsz ⊢
      obtain ⟨A, hA⟩ : ∃ A : ByteArray, ⟨#[40]⟩ ++ B = A := ⟨_, rfl⟩
      rw [hA] at hsz ⊢
      obtain ⟨r, hr⟩ : ∃ r : ByteArray, A ++ ⟨#[41]⟩ = r := ⟨_, rfl⟩
      rw [hr] at hsz ⊢
      have sA : A.size = 1 + B.size := by rw [← hA, ByteArray.size_append]; rfl
      have sr : r.size = A.size + 1 := by rw [← hr, ByteArray.size_append]; rfl
      have z1 : ¬ (9223372036854775807 < 1 + B.size) := by omega
      have z2 : ¬ (9223372036854775807 < A.size + 1) := by omega
      obtain ⟨b, off, rfl, hx⟩ := hts n hi
      generalize ts.getD n nd0 = x at hx LV
      obtain ⟨la, lc, hl4, -, -, -⟩ := hx.l
      obtain ⟨k, at_, m, s, l⟩ := x
      simp only at hl4 LV
      obtain ⟨W1, hW1⟩ : ∃ W1, W1 = w.alloc (.cells #[.slice (some ⟨b, off, none⟩) ts.length cap] 62) := ⟨_, rfl⟩
      have k1 : KB F0 w W1 := by rw [hW1]; exact (KB.refl _ _).alloc _
      have c0 : W1.cell? ⟨b, off + n * 5, none⟩ = some (.int .u8 (k : Nat)) := k1.cell (p := ⟨b, off + n * 5, none⟩) (fun x => x) hx.k
      have c1 : W1.cell? ⟨b, off + n * 5 + 1, none⟩ = some (.int .i64 at_) := k1.cell (p := ⟨b, off + n * 5 + 1, none⟩) (fun x => x) hx.at_
      have c2 : W1.cell? ⟨b, off + n * 5 + 2, none⟩ = some (.int .i64 m) := k1.cell (p := ⟨b, off + n * 5 + 2, none⟩) (fun x => x) hx.n
      have c3 : W1.cell? ⟨b, off + n * 5 + 3, none⟩ = some (.string s) := k1.cell (p := ⟨b, off + n * 5 + 3, none⟩) (fun x => x) hx.s
      have c4 := k1.cell (p := ⟨b, off + n * 5 + 4, none⟩) (fun x => x) hl4
      generalize ts.length = N at hi HB hW1 ⊢
      generalize l.length = M at hl4 c4
      have hiN : (n : Int) < (N : Int) := by omega
      obtain ⟨W2, hW2⟩ : ∃ W2, W2 = W1.alloc (.cells #[.int .u8 k, .int .i64 at_, .int .i64 m, .string s, .slice la M lc] 44) := ⟨_, rfl⟩
      have hb1 : W2.heap[w.heap.size]? = some (.cells #[.slice (some ⟨b, off, none⟩) N cap] 62 (0, 0)) := by
        rw [hW2]
        exact ((KB.refl F0 W1).alloc _).heap (fun x => x) (by rw [hW1]; exact alloc_new _ _)
      have k2 : KB F0 w W2 := by rw [hW2]; exact k1.alloc _
      have HK := Lib.hid (And.intro k2 hb1)
      have HW := Lib.hid (And.intro hW2 hW1)
      have LV := Lib.hid (fun (W : World) (hk : KB F0 w W) => LV.out W hk at_ m la M lc)
      have d9 : decide (own < least) = true := decide_eq_true hlt
      obtain ⟨w0, rfl⟩ : ∃ w0, w0 = w := ⟨_, rfl⟩
      clear hx hts ih h hsz hB hown hlt hT hok k1 k2 hb1 hl4 hex sA sr hwt hlen hf hl
      unfold TxtCall at HB ⊢
      go_enter Tryz.func70, Tryz.ntmps70
      rw [hW1] at c0 c1 c2 c3 c4
      go_wp2_with fail
      rw [← HW.out.2, ← HW.out.1]
      refine (LV.out W2 HK.out.1).mono ?_
      rintro e w3 ⟨rfl, k3⟩
      have e0 : w3.cell? ⟨w0.heap.size, 0, none⟩ = some (.slice (some ⟨b, off, none⟩) N cap) := blk_cell (k3.heap (fun x => x) HK.out.2) 0
      have HK3 := Lib.hid (HK.out.1.trans k3)
      clear c0 c1 c2 c3 c4 k3 hW1 hW2 HW
      go_wp2_with fail
      refine (HB.out w3 HK3.out).mono ?_
      rintro e w4 ⟨rfl, k4⟩
      have K := Lib.hid (HK3.out.trans k4)
      clear k4 e0
      go_wp2_with fail
      go_ret
      exact ⟨rfl, K.out⟩
    · rw [if_neg hlt]
      exact hB least w (KB.refl _ _) (by omega)
theorem expr_any (ts : List Nd) (h : TOk ts) (hok : ∀ x ∈ ts, NdOk x) (a : Option Addr) (cap n least : Nat) (w : World) (hn : n < ts.length) (hl : least ≤ 8) (hts : NodesAt w a ts) (hT : PT w) (hex : isExprB (ts.getD n nd0).k = true) :
    TxtCall 70 #[.slice a ts.length cap, .int .i64 n, .int .i64 least] w (Ex ts n least) := expr_all ts h hok a cap ts.length n least w hn (by omega) hl hts hT hex
theorem whole_any (ts : List Nd) (h : TOk ts) (hok : ∀ x ∈ ts, NdOk x) (a : Option Addr) (cap n : Nat) (w : World) (hn : n < ts.length) (hts : NodesAt w a ts) (hT : PT w) (hex : isExprB (ts.getD n nd0).k = true) :
    TxtCall 42 #[.slice a ts.length cap, .int .i64 n] w (Ex ts n 1) := whole_of _ n _ w (expr_any ts h hok a cap n 1 w hn (by omega) hts hT hex)
end Go.Proofs.YtoophdcagpfmpaaGreatDoor

/- print: a type's text. -/
import Derived.Test.YtoophdcagpfmpaaGreatDoorPrD
namespace Go.Proofs.YtoophdcagpfmpaaGreatDoor
open Go.RowKit

/-- What lies in the library's tables. -/
structure PT (w : World) : Prop where
  asc : Tab w
  pow : Lib.TabIs Tryz.prog w "internal/strconv.uint64pow10" .u64 Lib.pow10Tab
theorem PT.kb {w w' : World} (h : PT w) (hk : KB F0 w w') : PT w' := ⟨h.asc.kb hk, var_kb hk h.pow⟩
/-- A node's cells. -/
abbrev ndC (x : Nd) (la : Option Addr) (lc : Nat) : Array Value := #[.int .u8 (x.k : Nat), .int .i64 x.at_, .int .i64 x.n, .string x.s, .slice la x.l.length lc]
theorem cat_lt {a b : ByteArray} (h : a.size + b.size ≤ 100000000000) : ¬ (9223372036854775807 < a.size + b.size) := by omega
theorem type_cases {k : Nat} (h : isTypeB k = true) : k = 8 ∨ k = 9 ∨ k = 10 ∨ k = 11 ∨ k = 12 := by
  unfold isTypeB at h
  simp only [Bool.and_eq_true, decide_eq_true_eq] at h
  omega
set_option maxRecDepth 100000 in
set_option maxHeartbeats 4000000 in
theorem kind_any_p (ts : List Nd) (h : TOk ts) (a : Option Addr) (cap : Nat) (f : Nat) : ∀ (n : Nat) (w : World), n < ts.length → ts.length ≤ n + f → NodesAt w a ts → isTypeB (ts.getD n nd0).k = true →
    Calls Tryz.prog 45 #[.slice a ts.length cap, .int .i64 n] w fun e w' => e = .returned (.string (Ty ts n)) ∧ KB F0 w w' := by
  induction f with
  | zero => intro n w h1 h2; omega
  | succ f ih =>
    intro n w hi hf hts hty
    obtain ⟨w0, rfl⟩ : ∃ w0, w0 = w := ⟨_, rfl⟩
    have hlen := h.len
    obtain ⟨r, hr⟩ : ∃ r, r = Ty ts n := ⟨_, rfl⟩
    rw [← hr]
    rw [Ty_eq h.down hi] at hr
    have htx := (h.txt hi).2.1
    have hsz : ∀ q, q < ts.length → (Ty ts q).size ≤ 4000000 := fun q hq => by
      have h1 := Ty_size h hq
      have h2 := wt1_pos h.good hq
      omega
    have hone : (ts.getD n nd0).k = 10 ∨ (ts.getD n nd0).k = 11 → ∃ q : Nat, (ts.getD n nd0).l.length = 1 ∧ (ts.getD n nd0).l.getD 0 0 = (q : Int) ∧ q < ts.length ∧ tyK ts (ts.getD n nd0) 0 = Ty ts q ∧
        ∀ W, KB F0 w0 W → Calls Tryz.prog 45 #[.slice a ts.length cap, .int .i64 q] W fun e w' => e = .returned (.string (Ty ts q)) ∧ KB F0 W w' := fun e => by
      have h1 := h.ty1 hi (by omega)
      have h2 := h.kid hi (i := 0) (by omega)
      exact ⟨_, h1.1, h2.2.2, h2.2.1, by unfold tyK; rw [if_pos (by omega)], fun W hk => ih _ W h2.2.1 (by omega) (hts.kbF hk) h1.2⟩
    obtain ⟨b, off, rfl, hx⟩ := hts n hi
    generalize ts.getD n nd0 = x at hx hr hty hone htx
    obtain ⟨la, lc, hl4, hints, hlc, hlm⟩ := hx.l
    unfold maxLen at hlm
    obtain ⟨k, at_, m, s, l⟩ := x
    simp only at hr hty hone htx hl4 hints hlc
    have c1 : w0.cell? ⟨b, off + n * 5 + 1, none⟩ = some (.int .i64 at_) := hx.at_
    have c2 : w0.cell? ⟨b, off + n * 5 + 2, none⟩ = some (.int .i64 m) := hx.n
    have c3 : w0.cell? ⟨b, off + n * 5 + 3, none⟩ = some (.string s) := hx.s
    have c0 : w0.cell? ⟨b, off + n * 5, none⟩ = some (.int .u8 (k : Nat)) := hx.k
    obtain ⟨N, hN⟩ : ∃ N, N = ts.length := ⟨_, rfl⟩
    rw [← hN] at hi hone hlen hsz ⊢
    have hiN : (n : Int) < (N : Int) := by omega
    obtain ⟨M, hM⟩ : ∃ M, M = l.length := ⟨_, rfl⟩
    rw [← hM] at hone hl4 hlc
    have HS := Lib.hid hsz
    clear hx hts ih hN h hsz hf
    rcases type_cases hty with rfl | rfl | rfl | rfl | rfl
    · have c0 : w0.cell? ⟨b, off + n * 5, none⟩ = some (.int .u8 8) := c0
      have HR := Lib.hid hr
      clear hone hr hty hM hints
      go_enter Tryz.func45, Tryz.ntmps45
      go_wp2_with fail
      go_ret
      exact ⟨ret_eq (by rw [HR.out]; rfl), (KB.refl _ _).alloc _⟩
    · have c0 : w0.cell? ⟨b, off + n * 5, none⟩ = some (.int .u8 9) := c0
      have HR := Lib.hid hr
      clear hone hr hty hM hints
      go_enter Tryz.func45, Tryz.ntmps45
      go_wp2_with fail
      go_ret
      exact ⟨ret_eq (by rw [HR.out]; rfl), (KB.refl _ _).alloc _⟩
    · have c0 : w0.cell? ⟨b, off + n * 5, none⟩ = some (.int .u8 10) := c0
      obtain ⟨q, rfl, hq, hqN, hqt, hc⟩ := hone (Or.inl rfl)
      obtain ⟨lb, lo, rfl, hcl⟩ := hints 0 (by omega)
      rw [hq] at hcl
      have hr2 : r = ⟨#[66, 111, 120, 60]⟩ ++ Ty ts q ++ ⟨#[62]⟩ := by rw [hr]; show _ ++ tyK ts ⟨10, at_, m, s, l⟩ 0 ++ _ = _; rw [hqt]
      have hz := HS.out q (by omega)
      have HC := Lib.hid hc
      generalize Ty ts q = C at hr2 hz HC
      obtain ⟨A, hA⟩ : ∃ A : ByteArray, ⟨#[66, 111, 120, 60]⟩ ++ C = A := ⟨_, rfl⟩
      have hsA : A.size = 4 + C.size := by rw [← hA, ByteArray.size_append]; rfl
      rw [hA] at hr2
      have hr3 := hr2.symm
      have z1 : ¬ (9223372036854775807 < 4 + C.size) := by omega
      have z2 : ¬ (9223372036854775807 < A.size + 1) := by omega
      obtain ⟨W1, hW1⟩ : ∃ W1, W1 = w0.alloc (.cells #[.int .u8 10, .int .i64 at_, .int .i64 m, .string s, .slice (some ⟨lb, lo, none⟩) 1 lc] 44) := ⟨_, rfl⟩
      have hk1 : KB F0 w0 W1 := by rw [hW1]; exact (KB.refl _ _).alloc _
      have hcl1 := hk1.cell (p := ⟨lb, lo + 0, none⟩) (fun x => x) hcl
      rw [Nat.add_zero] at hcl1
      have HK := Lib.hid hk1
      have HW := Lib.hid hW1
      rw [hW1] at hcl1
      clear hone hr hr2 hty hM hints hc hz hsA hq hqt hcl hk1 hW1 hqN
      go_enter Tryz.func45, Tryz.ntmps45
      go_wp2_with fail
      rw [← HW.out]
      refine (HC.out W1 HK.out).mono ?_
      rintro e w2 ⟨rfl, k2⟩
      have K2 := Lib.hid (HK.out.trans k2)
      clear k2 hcl1
      go_wp2_with fail
      go_ret
      exact ⟨rfl, K2.out⟩
    · have c0 : w0.cell? ⟨b, off + n * 5, none⟩ = some (.int .u8 11) := c0
      obtain ⟨q, rfl, hq, hqN, hqt, hc⟩ := hone (Or.inr rfl)
      obtain ⟨lb, lo, rfl, hcl⟩ := hints 0 (by omega)
      rw [hq] at hcl
      have hr2 : r = ampB s (m == 1) (Ty ts q) := by rw [hr]; show ampB s (m == 1) (tyK ts ⟨11, at_, m, s, l⟩ 0) = _; rw [hqt]
      have hz := HS.out q (by omega)
      have HC := Lib.hid hc
      generalize Ty ts q = C at hr2 hz HC
      have AM := Lib.hid (fun (W : World) => amp_any s C (m == 1) W htx (by omega))
      rw [← hr2] at AM
      obtain ⟨mb, hmb⟩ : ∃ mb, (m == 1) = mb := ⟨_, rfl⟩
      rw [hmb] at AM
      obtain ⟨W1, hW1⟩ : ∃ W1, W1 = w0.alloc (.cells #[.int .u8 11, .int .i64 at_, .int .i64 m, .string s, .slice (some ⟨lb, lo, none⟩) 1 lc] 44) := ⟨_, rfl⟩
      have hk1 : KB F0 w0 W1 := by rw [hW1]; exact (KB.refl _ _).alloc _
      have hb1 : W1.heap[w0.heap.size]? = some (.cells #[.int .u8 11, .int .i64 at_, .int .i64 m, .string s, .slice (some ⟨lb, lo, none⟩) 1 lc] 44 (0, 0)) := by rw [hW1]; exact alloc_new _ _
      have hcl1 := hk1.cell (p := ⟨lb, lo + 0, none⟩) (fun x => x) hcl
      rw [Nat.add_zero] at hcl1
      have HK := Lib.hid (And.intro hk1 hb1)
      have HW := Lib.hid hW1
      clear hone hr hr2 hty hM hints hc hz hq hqt hcl hk1 hW1 hqN hb1
      go_enter Tryz.func45, Tryz.ntmps45
      go_wp2_with fail
      rw [← HW.out]
      have d2 : W1.cell? ⟨w0.heap.size, 2, none⟩ = some (.int .i64 m) := blk_cell HK.out.2 2
      have d3 : W1.cell? ⟨w0.heap.size, 3, none⟩ = some (.string s) := blk_cell HK.out.2 3
      have d4 : W1.cell? ⟨w0.heap.size, 4, none⟩ = some (.slice (some ⟨lb, lo, none⟩) 1 lc) := blk_cell HK.out.2 4
      refine wp_region_rv 13 GK (kindW [(10, (fun v => v = .string C), (fun _ _ => True)), (11, (fun v => v = .string r), (fun _ _ => True))]) (by kernel_rfl) (by kernel_rfl) (kb_trans _) (kb_refl _) (kb_start _ _) (kindW_mono _ (by intro p hp; simp only [List.mem_cons, List.not_mem_nil, or_false] at hp; (rcases hp with rfl | rfl <;> exact lasts_true))) ?_
      simp only [List.take_succ_cons, List.take_zero, List.drop_succ_cons, List.drop_zero]
      iterate 10 (refine rv_det (by kernel_rfl) rfl (by intro w hG hH; have hc0 := KB.cell hG (fun x => x) (d2); have hc1 := KB.cell hG (fun x => x) (d3); have hc2 := KB.cell hG (fun x => x) (d4); have hc3 := KB.cell hG (fun x => x) (hcl1); go_simp; first | done | with_reducible rfl) ?_; simp only [Act.put, List.setIfInBounds_toArray, List.set_cons_zero, List.set_cons_succ])
      refine rv_rel (by kernel_rfl) rfl ⟨_, rfl⟩ (by
        intro w hG hH
        refine opVal_call (by go_simp; first | done | exact ⟨⟨rfl, rfl⟩, rfl⟩) ?_
        refine (HC.out _ (HK.out.1.trans hG)).mono ?_
        rintro e w' ⟨rfl, hq⟩
        exact ⟨_, rfl, rfl, by first | (obtain ⟨nq, rfl⟩ := hq; exact (KB.refl _ _).drewN _) | (subst hq; exact KB.refl _ _) | exact hq, trivial⟩) ?_
      rintro v rfl
      simp only [Act.put, List.setIfInBounds_toArray, List.set_cons_zero, List.set_cons_succ]
      refine rv_rel (by kernel_rfl) rfl ⟨_, rfl⟩ (by
        intro w hG hH
        refine opVal_call (by go_simp; first | done | exact ⟨⟨rfl, rfl⟩, rfl⟩) ?_
        refine (AM.out _).mono ?_
        rintro e w' ⟨rfl, hq⟩
        exact ⟨_, rfl, rfl, by first | (obtain ⟨nq, rfl⟩ := hq; exact (KB.refl _ _).drewN _) | (subst hq; exact KB.refl _ _) | exact hq, trivial⟩) ?_
      rintro v rfl
      simp only [Act.put, List.setIfInBounds_toArray, List.set_cons_zero, List.set_cons_succ]
      refine rv_det (by kernel_rfl) rfl (by intro w hG hH; go_simp; first | done | with_reducible rfl) ?_
      simp only [Act.put, List.setIfInBounds_toArray, List.set_cons_zero, List.set_cons_succ]
      refine rv_nil (fun w hG hH => ?_)
      have K2 := Lib.hid (HK.out.1.trans hG)
      clear hG hH d2 d3 d4 hcl1
      go_wp2_with fail
      go_ret
      exact ⟨rfl, K2.out⟩
    · have c0 : w0.cell? ⟨b, off + n * 5, none⟩ = some (.int .u8 12) := c0
      have HR := Lib.hid hr
      clear hone hr hty hM hints
      go_enter Tryz.func45, Tryz.ntmps45
      go_wp2_with fail
      go_ret
      exact ⟨ret_eq (by rw [HR.out]; rfl), (KB.refl _ _).alloc _⟩
theorem kind_any5 (ts : List Nd) (h : TOk ts) (a : Option Addr) (cap n : Nat) (w : World) (hn : n < ts.length) (hts : NodesAt w a ts) (hty : isTypeB (ts.getD n nd0).k = true) :
    Calls Tryz.prog 45 #[.slice a ts.length cap, .int .i64 n] w fun e w' => e = .returned (.string (Ty ts n)) ∧ KB F0 w w' := kind_any_p ts h a cap ts.length n w hn (by omega) hts hty
end Go.Proofs.YtoophdcagpfmpaaGreatDoor

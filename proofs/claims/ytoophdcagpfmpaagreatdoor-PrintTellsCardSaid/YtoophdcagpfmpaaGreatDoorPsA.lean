/- loanwordref05: Level, blanks, typ. -/
import Derived.Test.YtoophdcagpfmpaaGreatDoorPrS
namespace Go.Proofs.YtoophdcagpfmpaaGreatDoor
open Go.RowKit

theorem lv_bool (s : ByteArray) : lvP 32 s = if (s.toList == [124, 124]) = true then 1 else if (s.toList == [38, 38]) = true then 2 else if (s.toList == [43]) = true then 4 else if (s.toList == [45]) = true then 4 else if (s.toList == [42]) = true then 5 else if (s.toList == [47]) = true then 5 else if (s.toList == [37]) = true then 5 else 3 := by
  unfold lvP
  rw [if_pos rfl]
  simp only [toList_beq, decide_eq_true_eq]
  by_cases h1 : s = ⟨#[124, 124]⟩
  · rw [if_pos h1, if_pos h1]
  rw [if_neg h1, if_neg h1]
  by_cases h2 : s = ⟨#[38, 38]⟩
  · rw [if_pos h2, if_pos h2]
  rw [if_neg h2, if_neg h2]
  by_cases h3 : s = ⟨#[43]⟩
  · rw [if_pos (Or.inl h3), if_pos h3]
  rw [if_neg h3]
  by_cases h4 : s = ⟨#[45]⟩
  · rw [if_pos (Or.inr h4), if_pos h4]
  rw [if_neg h4, if_neg (fun e => e.elim h3 h4)]
  by_cases h5 : s = ⟨#[42]⟩
  · rw [if_pos (Or.inl h5), if_pos h5]
  rw [if_neg h5]
  by_cases h6 : s = ⟨#[47]⟩
  · rw [if_pos (Or.inr (Or.inl h6)), if_pos h6]
  rw [if_neg h6]
  by_cases h7 : s = ⟨#[37]⟩
  · rw [if_pos (Or.inr (Or.inr h7)), if_pos h7]
  rw [if_neg h7, if_neg (fun e => e.elim h5 (fun e => e.elim h6 h7))]
set_option maxRecDepth 100000 in
set_option maxHeartbeats 4000000 in
theorem rlevel_any (k : Nat) (at_ n : Int) (s : ByteArray) (la : Option Addr) (ll lc : Nat) (w : World) :
    Calls Tryz.prog 23 #[.agg #[.int .u8 k, .int .i64 at_, .int .i64 n, .string s, .slice la ll lc]] w fun e w' => e = .returned (.int .i64 (lvP k s : Nat)) ∧ KB F0 w w' := by
  obtain ⟨w0, rfl⟩ : ∃ w0, w0 = w := ⟨_, rfl⟩
  obtain ⟨r, hr⟩ : ∃ r, r = lvP k s := ⟨_, rfl⟩
  rw [← hr]
  have hK : KB F0 w0 (w0.alloc (.cells #[.int .u8 (k : Nat), .int .i64 at_, .int .i64 n, .string s, .slice la ll lc] 44)) := (KB.refl _ _).alloc _
  have HK := Lib.hid hK
  clear hK
  by_cases h32 : k = 32
  · have d0 : ((k : Int) == 32) = true := by simp; omega
    rw [h32, lv_bool] at hr
    have HR := Lib.hid hr
    clear hr h32
    obtain ⟨b0, t0⟩ : ∃ b, (s.toList == [124, 124]) = b := ⟨_, rfl⟩
    obtain ⟨b1, t1⟩ : ∃ b, (s.toList == [38, 38]) = b := ⟨_, rfl⟩
    obtain ⟨b2, t2⟩ : ∃ b, (s.toList == [43]) = b := ⟨_, rfl⟩
    obtain ⟨b3, t3⟩ : ∃ b, (s.toList == [45]) = b := ⟨_, rfl⟩
    obtain ⟨b4, t4⟩ : ∃ b, (s.toList == [42]) = b := ⟨_, rfl⟩
    obtain ⟨b5, t5⟩ : ∃ b, (s.toList == [47]) = b := ⟨_, rfl⟩
    obtain ⟨b6, t6⟩ : ∃ b, (s.toList == [37]) = b := ⟨_, rfl⟩
    rw [t0, t1, t2, t3, t4, t5, t6] at HR
    cases b0
    case true =>
      go_enter Tryz.func23, Tryz.ntmps23
      go_wp2_with fail
      go_ret
      exact ⟨ret_eq (by rw [HR.out]; rfl), HK.out⟩
    case false =>
    cases b1
    case true =>
      go_enter Tryz.func23, Tryz.ntmps23
      go_wp2_with fail
      go_ret
      exact ⟨ret_eq (by rw [HR.out]; rfl), HK.out⟩
    case false =>
    cases b2
    case true =>
      go_enter Tryz.func23, Tryz.ntmps23
      go_wp2_with fail
      go_ret
      exact ⟨ret_eq (by rw [HR.out]; rfl), HK.out⟩
    case false =>
    cases b3
    case true =>
      go_enter Tryz.func23, Tryz.ntmps23
      go_wp2_with fail
      go_ret
      exact ⟨ret_eq (by rw [HR.out]; rfl), HK.out⟩
    case false =>
    cases b4
    case true =>
      go_enter Tryz.func23, Tryz.ntmps23
      go_wp2_with fail
      go_ret
      exact ⟨ret_eq (by rw [HR.out]; rfl), HK.out⟩
    case false =>
    cases b5
    case true =>
      go_enter Tryz.func23, Tryz.ntmps23
      go_wp2_with fail
      go_ret
      exact ⟨ret_eq (by rw [HR.out]; rfl), HK.out⟩
    case false =>
    cases b6
    case true =>
      go_enter Tryz.func23, Tryz.ntmps23
      go_wp2_with fail
      go_ret
      exact ⟨ret_eq (by rw [HR.out]; rfl), HK.out⟩
    case false =>
    go_enter Tryz.func23, Tryz.ntmps23
    go_wp2_with fail
    go_ret
    exact ⟨ret_eq (by rw [HR.out]; rfl), HK.out⟩
  · have hcases : r = if 28 ≤ k ∧ k ≤ 31 then 6 else if k = 27 then 7 else 8 := by rw [hr, lvP, if_neg h32]
    have HR := Lib.hid hcases
    have d0 : ((k : Int) == 32) = false := by simp; omega
    clear hr hcases
    by_cases h6 : 28 ≤ k ∧ k ≤ 31
    · obtain rfl | rfl | rfl | rfl : k = 28 ∨ k = 29 ∨ k = 30 ∨ k = 31 := by omega
      all_goals
        clear h6 d0 h32
        go_enter Tryz.func23, Tryz.ntmps23
        go_wp2_with fail
        go_ret
        exact ⟨ret_eq (by rw [HR.out]; rfl), HK.out⟩
    · have e1 : ((k : Int) == 30) = false := by simp; omega
      have e2 : ((k : Int) == 31) = false := by simp; omega
      have e3 : ((k : Int) == 28) = false := by simp; omega
      have e4 : ((k : Int) == 29) = false := by simp; omega
      by_cases h7 : k = 27
      · have HE : Hid (r = 7) := Lib.hid (by rw [HR.out, if_neg h6, if_pos h7])
        have e5 : ((k : Int) == 27) = true := by simp; omega
        clear h6 h7 h32
        go_enter Tryz.func23, Tryz.ntmps23
        go_wp2_with fail
        go_ret
        exact ⟨ret_eq (by rw [HE.out]; rfl), HK.out⟩
      · have HE : Hid (r = 8) := Lib.hid (by rw [HR.out, if_neg h6, if_neg h7])
        have e5 : ((k : Int) == 27) = false := by simp; omega
        clear h6 h7 h32
        go_enter Tryz.func23, Tryz.ntmps23
        go_wp2_with fail
        go_ret
        exact ⟨ret_eq (by rw [HE.out]; rfl), HK.out⟩
set_option maxRecDepth 100000 in
set_option maxHeartbeats 4000000 in
theorem blanks_any (n : Nat) (hn : n ≤ 20000) (w : World) : Calls Tryz.prog 81 #[.int .i64 n] w fun e w' => e = .returned (.string (blB n)) ∧ w = w' := by
  go_enter Tryz.func81, Tryz.ntmps81
  go_wp2_with fail
  go_loop [3, 4] (fun sv kv => ∃ k : Nat, k ≤ n ∧ sv = .string (blB k) ∧ kv = .int .i64 (k : Nat)) (fun _ kv => n - (intOf kv).toNat)
  case atStart => exact ⟨0, by omega, rfl, rfl⟩
  case round =>
    obtain ⟨k, hk, rfl, rfl⟩ := hrel
    by_cases hlt : k < n
    · have hkn : (k : Int) < (n : Int) := by omega
      have hs : blB k ++ ⟨#[32, 32, 32, 32]⟩ = blB (k + 1) := rfl
      have hz := blB_size k
      have z1 : ¬ (9223372036854775807 < (blB k).size + 4) := by omega
      clear hz
      go_wp2_with fail
      go_round
      case rel => exact ⟨k + 1, by omega, rfl, by go_num⟩
      case measure => simp [intOf]; omega
    · obtain rfl : k = n := by omega
      go_wp2_with fail
      go_ret
      exact ⟨rfl, rfl⟩
/-- A text that is an expression or a type has a first byte. -/
theorem hasAmp_at {s : ByteArray} (h : 0 < s.size) : hasAmp s = ((byteAt s 0 : Int) == 38) := by
  unfold hasAmp byteAt
  have hl : 0 < s.data.toList.length := by simpa using h
  cases hs : s.data.toList with
  | nil => rw [hs] at hl; cases hl
  | cons c r =>
    rw [Bool.eq_iff_iff]
    simp only [Lib.hasPrefix, List.isPrefixOf, List.getD_cons_zero, Bool.and_true, beq_iff_eq]
    constructor
    · intro e; rw [← e]; rfl
    · intro e
      have : c.toNat = 38 := by omega
      exact (UInt8.toNat_inj.1 (by rw [this]; rfl)).symm
theorem ty_pos {ts : List Nd} (h : TOk ts) {n : Nat} (hn : n < ts.length) (hk : isTypeB (ts.getD n nd0).k = true) : 0 < (Ty ts n).size := by
  rw [Ty_eq h.down hn]
  have ht := (h.txt hn).1
  unfold tyN
  split
  · exact Nat.zero_lt_succ _
  · exact Nat.zero_lt_succ _
  · rw [ByteArray.size_append, ByteArray.size_append]
    have : (⟨#[62]⟩ : ByteArray).size = 1 := rfl
    omega
  · unfold ampB
    have e1 : (⟨#[38, 109, 117, 116, 32]⟩ : ByteArray).size = 5 := rfl
    have e2 : (⟨#[38, 32]⟩ : ByteArray).size = 2 := rfl
    have e3 : (⟨#[38]⟩ : ByteArray).size = 1 := rfl
    have e4 : (⟨#[38, 39]⟩ : ByteArray).size = 2 := rfl
    split
    · split
      · rw [ByteArray.size_append]; omega
      · split
        · rw [ByteArray.size_append]; omega
        · rw [ByteArray.size_append]; omega
    · split
      · simp only [ByteArray.size_append]; omega
      · simp only [ByteArray.size_append]; omega
  · rename_i h8 h9 h10 h11
    rcases type_cases hk with e | e | e | e | e
    · exact absurd e h8
    · exact absurd e h9
    · exact absurd e h10
    · exact absurd e h11
    · have := ht (by omega); omega

set_option maxRecDepth 100000 in
set_option maxHeartbeats 16000000 in
theorem typ_any_p (ts : List Nd) (h : TOk ts) (a : Option Addr) (cap : Nat) (f : Nat) : ∀ (n : Nat) (w : World), n < ts.length → ts.length ≤ n + f → NodesAt w a ts → isTypeB (ts.getD n nd0).k = true →
    TxtCall 49 #[.agg #[.slice a ts.length cap], .int .i64 n] w (Ty ts n) := by
  induction f with
  | zero => intro n w h1 h2; omega
  | succ f ih =>
    intro n w hi hf hts hty
    obtain ⟨w0, rfl⟩ : ∃ w0, w0 = w := ⟨_, rfl⟩
    have hlen := h.len
    obtain ⟨r, hr⟩ : ∃ r, r = Ty ts n := ⟨_, rfl⟩
    rw [← hr]
    rw [Ty_eq h.down hi] at hr
    have htx := (h.txt hi).2.1
    have hone : (ts.getD n nd0).k = 10 ∨ (ts.getD n nd0).k = 11 → ∃ q : Nat, (ts.getD n nd0).l.length = 1 ∧ (ts.getD n nd0).l.getD 0 0 = (q : Int) ∧ q < ts.length ∧ tyK ts (ts.getD n nd0) 0 = Ty ts q ∧ (Ty ts q).size ≤ 4000000 ∧ 0 < (Ty ts q).size ∧
        ∀ W, KB F0 w0 W → TxtCall 49 #[.agg #[.slice a ts.length cap], .int .i64 q] W (Ty ts q) := fun e => by
      have h1 := h.ty1 hi (by omega)
      have h2 := h.kid hi (i := 0) (by omega)
      have h3 := Ty_size h h2.2.1
      have h4 := wt1_pos h.good h2.2.1
      exact ⟨_, h1.1, h2.2.2, h2.2.1, by unfold tyK; rw [if_pos (by omega)], by omega, ty_pos h h2.2.1 h1.2, fun W hk => ih _ W h2.2.1 (by omega) (hts.kbF hk) h1.2⟩
    obtain ⟨b, off, rfl, hx⟩ := hts n hi
    generalize ts.getD n nd0 = x at hx hr hty hone htx
    obtain ⟨la, lc, hl4, hints, hlc, hlm⟩ := hx.l
    unfold maxLen at hlm
    obtain ⟨k, at_, m, s, l⟩ := x
    simp only at hr hty hone htx hl4 hints hlc
    obtain ⟨N, hN⟩ : ∃ N, N = ts.length := ⟨_, rfl⟩
    rw [← hN] at hi hone hlen ⊢
    have hiN : (n : Int) < (N : Int) := by omega
    obtain ⟨M, hM⟩ : ∃ M, M = l.length := ⟨_, rfl⟩
    rw [← hM] at hone hl4 hlc
    obtain ⟨W1, hW1⟩ : ∃ W1, W1 = w0.alloc (.cells #[.slice (some ⟨b, off, none⟩) N cap] 24) := ⟨_, rfl⟩
    have k1 : KB F0 w0 W1 := by rw [hW1]; exact (KB.refl _ _).alloc _
    have c0 : W1.cell? ⟨b, off + n * 5, none⟩ = some (.int .u8 (k : Nat)) := k1.cell (p := ⟨b, off + n * 5, none⟩) (fun x => x) hx.k
    have c1 : W1.cell? ⟨b, off + n * 5 + 1, none⟩ = some (.int .i64 at_) := k1.cell (p := ⟨b, off + n * 5 + 1, none⟩) (fun x => x) hx.at_
    have c2 : W1.cell? ⟨b, off + n * 5 + 2, none⟩ = some (.int .i64 m) := k1.cell (p := ⟨b, off + n * 5 + 2, none⟩) (fun x => x) hx.n
    have c3 : W1.cell? ⟨b, off + n * 5 + 3, none⟩ = some (.string s) := k1.cell (p := ⟨b, off + n * 5 + 3, none⟩) (fun x => x) hx.s
    have c4 := k1.cell (p := ⟨b, off + n * 5 + 4, none⟩) (fun x => x) hl4
    obtain ⟨W2, hW2⟩ : ∃ W2, W2 = W1.alloc (.cells #[.int .u8 (k : Nat), .int .i64 at_, .int .i64 m, .string s, .slice la M lc] 44) := ⟨_, rfl⟩
    have hs1 : W1.heap.size = w0.heap.size + 1 := by rw [hW1]; simp
    have hb1 : W2.heap[w0.heap.size]? = some (.cells #[.slice (some ⟨b, off, none⟩) N cap] 24 (0, 0)) := by
      rw [hW2]
      exact ((KB.refl F0 W1).alloc _).heap (fun x => x) (by rw [hW1]; exact alloc_new _ _)
    have hb2 : W2.heap[w0.heap.size + 1]? = some (.cells #[.int .u8 (k : Nat), .int .i64 at_, .int .i64 m, .string s, .slice la M lc] 44 (0, 0)) := by rw [hW2, ← hs1]; exact alloc_new _ _
    have k2 : KB F0 w0 W2 := by rw [hW2]; exact k1.alloc _
    have HK := Lib.hid (And.intro k2 (And.intro hb1 hb2))
    have HW := Lib.hid (And.intro hW2 hW1)
    have HI := Lib.hid (fun i (hi : i < M) => hints i (by rw [← hM]; exact hi))
    have HONE := Lib.hid hone
    have HR := Lib.hid hr
    have HTX := Lib.hid htx
    rw [hW1] at c0 c1 c2 c3 c4
    have hks := type_cases hty
    clear hx hts ih h hone hr htx hints hM hN k1 k2 hb1 hb2 hs1 hl4 hlc hty hf hlen hW2 hW1 hi
    unfold TxtCall
    rcases hks with rfl | rfl | rfl | rfl | rfl
    · go_enter Tryz.func49, Tryz.ntmps49
      go_wp2_with fail
      go_ret
      exact ⟨ret_eq (by rw [HR.out]; rfl), by have := HK.out.1; rw [HW.out.1, HW.out.2] at this; exact this⟩
    · go_enter Tryz.func49, Tryz.ntmps49
      go_wp2_with fail
      go_ret
      exact ⟨ret_eq (by rw [HR.out]; rfl), by have := HK.out.1; rw [HW.out.1, HW.out.2] at this; exact this⟩
    · -- a box
      obtain ⟨q, hM1, hq, hqN, hqt, hz, hpos, hc⟩ := HONE.out (by omega)
      obtain rfl := hM1
      obtain ⟨lb, lo, rfl, hcl⟩ := HI.out 0 (by decide)
      rw [hq, Nat.add_zero] at hcl
      have hcl := HK.out.1.cell (p := ⟨lb, lo, none⟩) (fun x => x) hcl
      have HC := Lib.hid hc
      unfold TxtCall at HC
      have hr2 : r = ⟨#[66, 111, 120, 60]⟩ ++ Ty ts q ++ ⟨#[62]⟩ := by rw [HR.out]; show _ ++ tyK ts ⟨10, at_, m, s, l⟩ 0 ++ _ = _; rw [hqt]
      generalize Ty ts q = C at hr2 hz HC
      obtain ⟨A, hA⟩ : ∃ Z_ : ByteArray, ⟨#[66, 111, 120, 60]⟩ ++ C = Z_ := ⟨_, rfl⟩
      have hsA : A.size = 4 + C.size := by rw [← hA, ByteArray.size_append]; rfl
      rw [hA] at hr2
      have hr3 := hr2.symm
      have z1 : ¬ (9223372036854775807 < 4 + C.size) := by omega
      have z2 : ¬ (9223372036854775807 < A.size + 1) := by omega
      clear hr2 hz hsA hc hqt hqN hq hpos
      have HW2 : Hid (W2 = W1.alloc (.cells #[.int .u8 10, .int .i64 at_, .int .i64 m, .string s, .slice (some ⟨lb, lo, none⟩) 1 lc] 44)) := Lib.hid HW.out.1
      go_enter Tryz.func49, Tryz.ntmps49
      go_wp2_with fail
      rw [← HW.out.2, ← HW2.out]
      clear c0 c1 c2 c3 c4 HW2
      have e0 : W2.cell? ⟨w0.heap.size, 0, none⟩ = some (.slice (some ⟨b, off, none⟩) N cap) := blk_cell HK.out.2.1 0
      have d2 : W2.cell? ⟨w0.heap.size + 1, 2, none⟩ = some (.int .i64 m) := blk_cell HK.out.2.2 2
      have d3 : W2.cell? ⟨w0.heap.size + 1, 3, none⟩ = some (.string s) := blk_cell HK.out.2.2 3
      have d4 : W2.cell? ⟨w0.heap.size + 1, 4, none⟩ = some (.slice (some ⟨lb, lo, none⟩) 1 lc) := blk_cell HK.out.2.2 4
      refine wp_region_rv 9 GK (kindW [(5, (fun v => v = .string C), (fun _ _ => True))]) (by kernel_rfl) (by kernel_rfl) (kb_trans _) (kb_refl _) (kb_start _ _) (kindW_mono _ (by intro p hp; simp only [List.mem_cons, List.not_mem_nil, or_false] at hp; (subst hp; exact lasts_true))) ?_
      simp only [List.take_succ_cons, List.take_zero, List.drop_succ_cons, List.drop_zero]
      iterate 5 (refine rv_det (by kernel_rfl) rfl (by intro w hG hH; have hc0 := KB.cell hG (fun x => x) (e0); have hc1 := KB.cell hG (fun x => x) (d4); have hc2 := KB.cell hG (fun x => x) (hcl); go_simp; first | done | with_reducible rfl) ?_; simp only [Act.put, List.setIfInBounds_toArray, List.set_cons_zero, List.set_cons_succ])
      refine rv_rel (by kernel_rfl) rfl ⟨_, rfl⟩ (by
        intro w hG hH
        refine opVal_call (by go_simp; first | done | exact ⟨⟨rfl, rfl⟩, rfl⟩) ?_
        refine (HC.out _ (HK.out.1.trans hG)).mono ?_
        rintro e w' ⟨rfl, hq⟩
        exact ⟨_, rfl, rfl, by first | (obtain ⟨nq, rfl⟩ := hq; exact (KB.refl _ _).drewN _) | (subst hq; exact KB.refl _ _) | exact hq, trivial⟩) ?_
      rintro v rfl
      simp only [Act.put, List.setIfInBounds_toArray, List.set_cons_zero, List.set_cons_succ]
      iterate 3 (refine rv_det (by kernel_rfl) rfl (by intro w hG hH; go_simp; first | done | with_reducible rfl) ?_; simp only [Act.put, List.setIfInBounds_toArray, List.set_cons_zero, List.set_cons_succ])
      refine rv_nil (fun w hG hH => ?_)
      have K := Lib.hid (HK.out.1.trans hG)
      clear hG hH e0 d2 d3 d4 hcl
      go_wp2_with fail
      go_ret
      exact ⟨rfl, K.out⟩
    · -- a reference
      obtain ⟨q, hM1, hq, hqN, hqt, hz, hpos, hc⟩ := HONE.out (by omega)
      obtain rfl := hM1
      obtain ⟨lb, lo, rfl, hcl⟩ := HI.out 0 (by decide)
      rw [hq, Nat.add_zero] at hcl
      have hcl := HK.out.1.cell (p := ⟨lb, lo, none⟩) (fun x => x) hcl
      have HC := Lib.hid hc
      unfold TxtCall at HC
      have hr2 : r = ampB s (m == 1) (Ty ts q) := by rw [HR.out]; show ampB s (m == 1) (tyK ts ⟨11, at_, m, s, l⟩ 0) = _; rw [hqt]
      generalize Ty ts q = C at hr2 hz HC hpos
      unfold ampB at hr2
      have hss := HTX.out
      clear hc hqt hqN hq HR
      obtain ⟨mb, hmb⟩ : ∃ mb, (m == 1) = mb := ⟨_, rfl⟩
      rw [hmb] at hr2
      by_cases h0 : s.size = 0
      · rw [if_pos h0] at hr2
        have t1 : s.toList.isEmpty = true := by rw [isEmpty_size]; exact decide_eq_true h0
        cases mb
        case true =>
          rw [if_pos rfl] at hr2
          obtain ⟨D, hD⟩ : ∃ Z_ : ByteArray, ⟨#[109, 117, 116, 32]⟩ ++ C = Z_ := ⟨_, rfl⟩
          have sD : D.size = 4 + C.size := by rw [← hD, ByteArray.size_append]; rfl
          have hD0 : byteAt D 0 = 109 := by rw [← hD]; unfold byteAt; rw [ByteArray.data_append, Array.toList_append]; rfl
          have hlt : 0 < D.size := by omega
          have hb0 : (((D[0]'hlt).toNat : Int) == 38) = false := by rw [byteAt_eq D 0 hlt, hD0]; rfl
          have hr3 : ⟨#[38]⟩ ++ D = r := by rw [hr2, ← hD, ← ByteArray.append_assoc]; rfl
          have z1 : ¬ (9223372036854775807 < 4 + C.size) := by omega
          have z2 : ¬ (9223372036854775807 < 1 + D.size) := by omega
          clear hr2 hz sD hD0 h0 hss hpos
          have HW2 : Hid (W2 = W1.alloc (.cells #[.int .u8 11, .int .i64 at_, .int .i64 m, .string s, .slice (some ⟨lb, lo, none⟩) 1 lc] 44)) := Lib.hid HW.out.1
          go_enter Tryz.func49, Tryz.ntmps49
          go_wp2_with fail
          rw [← HW.out.2, ← HW2.out]
          clear c0 c1 c2 c3 c4 HW2
          have e0 : W2.cell? ⟨w0.heap.size, 0, none⟩ = some (.slice (some ⟨b, off, none⟩) N cap) := blk_cell HK.out.2.1 0
          have d2 : W2.cell? ⟨w0.heap.size + 1, 2, none⟩ = some (.int .i64 m) := blk_cell HK.out.2.2 2
          have d3 : W2.cell? ⟨w0.heap.size + 1, 3, none⟩ = some (.string s) := blk_cell HK.out.2.2 3
          have d4 : W2.cell? ⟨w0.heap.size + 1, 4, none⟩ = some (.slice (some ⟨lb, lo, none⟩) 1 lc) := blk_cell HK.out.2.2 4
          refine wp_region_rv 7 GK (kindW [(5, (fun v => v = .string C), (fun _ _ => True))]) (by kernel_rfl) (by kernel_rfl) (kb_trans _) (kb_refl _) (kb_start _ _) (kindW_mono _ (by intro p hp; simp only [List.mem_cons, List.not_mem_nil, or_false] at hp; (subst hp; exact lasts_true))) ?_
          simp only [List.take_succ_cons, List.take_zero, List.drop_succ_cons, List.drop_zero]
          iterate 5 (refine rv_det (by kernel_rfl) rfl (by intro w hG hH; have hc0 := KB.cell hG (fun x => x) (e0); have hc1 := KB.cell hG (fun x => x) (d4); have hc2 := KB.cell hG (fun x => x) (hcl); go_simp; first | done | with_reducible rfl) ?_; simp only [Act.put, List.setIfInBounds_toArray, List.set_cons_zero, List.set_cons_succ])
          refine rv_rel (by kernel_rfl) rfl ⟨_, rfl⟩ (by
            intro w hG hH
            refine opVal_call (by go_simp; first | done | exact ⟨⟨rfl, rfl⟩, rfl⟩) ?_
            refine (HC.out _ (HK.out.1.trans hG)).mono ?_
            rintro e w' ⟨rfl, hq⟩
            exact ⟨_, rfl, rfl, by first | (obtain ⟨nq, rfl⟩ := hq; exact (KB.refl _ _).drewN _) | (subst hq; exact KB.refl _ _) | exact hq, trivial⟩) ?_
          rintro v rfl
          simp only [Act.put, List.setIfInBounds_toArray, List.set_cons_zero, List.set_cons_succ]
          refine rv_det (by kernel_rfl) rfl (by intro w hG hH; go_simp; first | done | with_reducible rfl) ?_
          simp only [Act.put, List.setIfInBounds_toArray, List.set_cons_zero, List.set_cons_succ]
          refine rv_nil (fun w hG hH => ?_)
          have d2 := hG.cell (p := ⟨w0.heap.size + 1, 2, none⟩) (fun x => x) d2
          have d3 := hG.cell (p := ⟨w0.heap.size + 1, 3, none⟩) (fun x => x) d3
          have K := Lib.hid (HK.out.1.trans hG)
          clear hG hH e0 d4 hcl
          go_wp2_with fail
          go_ret
          exact ⟨rfl, K.out⟩
        case false =>
          rw [if_neg (by decide)] at hr2
          have hb0 : hasAmp C = (((C[0]'hpos).toNat : Int) == 38) := by rw [hasAmp_at hpos, byteAt_eq C 0 hpos]
          rw [hb0] at hr2
          obtain ⟨q0, hq0⟩ : ∃ q0, (((C[0]'hpos).toNat : Int) == 38) = q0 := ⟨_, rfl⟩
          rw [hq0] at hr2
          have HRR := Lib.hid hr2
          have z1 : ¬ (9223372036854775807 < 2 + C.size) := by omega
          have z2 : ¬ (9223372036854775807 < 1 + C.size) := by omega
          clear hr2 hz h0 hss hb0
          cases q0
          all_goals
            have HW2 : Hid (W2 = W1.alloc (.cells #[.int .u8 11, .int .i64 at_, .int .i64 m, .string s, .slice (some ⟨lb, lo, none⟩) 1 lc] 44)) := Lib.hid HW.out.1
            go_enter Tryz.func49, Tryz.ntmps49
            go_wp2_with fail
            rw [← HW.out.2, ← HW2.out]
            clear c0 c1 c2 c3 c4 HW2
            have e0 : W2.cell? ⟨w0.heap.size, 0, none⟩ = some (.slice (some ⟨b, off, none⟩) N cap) := blk_cell HK.out.2.1 0
            have d2 : W2.cell? ⟨w0.heap.size + 1, 2, none⟩ = some (.int .i64 m) := blk_cell HK.out.2.2 2
            have d3 : W2.cell? ⟨w0.heap.size + 1, 3, none⟩ = some (.string s) := blk_cell HK.out.2.2 3
            have d4 : W2.cell? ⟨w0.heap.size + 1, 4, none⟩ = some (.slice (some ⟨lb, lo, none⟩) 1 lc) := blk_cell HK.out.2.2 4
            refine wp_region_rv 7 GK (kindW [(5, (fun v => v = .string C), (fun _ _ => True))]) (by kernel_rfl) (by kernel_rfl) (kb_trans _) (kb_refl _) (kb_start _ _) (kindW_mono _ (by intro p hp; simp only [List.mem_cons, List.not_mem_nil, or_false] at hp; (subst hp; exact lasts_true))) ?_
            simp only [List.take_succ_cons, List.take_zero, List.drop_succ_cons, List.drop_zero]
            iterate 5 (refine rv_det (by kernel_rfl) rfl (by intro w hG hH; have hc0 := KB.cell hG (fun x => x) (e0); have hc1 := KB.cell hG (fun x => x) (d4); have hc2 := KB.cell hG (fun x => x) (hcl); go_simp; first | done | with_reducible rfl) ?_; simp only [Act.put, List.setIfInBounds_toArray, List.set_cons_zero, List.set_cons_succ])
            refine rv_rel (by kernel_rfl) rfl ⟨_, rfl⟩ (by
              intro w hG hH
              refine opVal_call (by go_simp; first | done | exact ⟨⟨rfl, rfl⟩, rfl⟩) ?_
              refine (HC.out _ (HK.out.1.trans hG)).mono ?_
              rintro e w' ⟨rfl, hq⟩
              exact ⟨_, rfl, rfl, by first | (obtain ⟨nq, rfl⟩ := hq; exact (KB.refl _ _).drewN _) | (subst hq; exact KB.refl _ _) | exact hq, trivial⟩) ?_
            rintro v rfl
            simp only [Act.put, List.setIfInBounds_toArray, List.set_cons_zero, List.set_cons_succ]
            refine rv_det (by kernel_rfl) rfl (by intro w hG hH; go_simp; first | done | with_reducible rfl) ?_
            simp only [Act.put, List.setIfInBounds_toArray, List.set_cons_zero, List.set_cons_succ]
            refine rv_nil (fun w hG hH => ?_)
            have d2 := hG.cell (p := ⟨w0.heap.size + 1, 2, none⟩) (fun x => x) d2
            have d3 := hG.cell (p := ⟨w0.heap.size + 1, 3, none⟩) (fun x => x) d3
            have K := Lib.hid (HK.out.1.trans hG)
            clear hG hH e0 d4 hcl
            go_wp2_with fail
            go_ret
            exact ⟨ret_eq (by rw [HRR.out]; rfl), K.out⟩
      · rw [if_neg h0] at hr2
        have t1 : s.toList.isEmpty = false := by rw [isEmpty_size]; exact decide_eq_false h0
        obtain ⟨A, hA⟩ : ∃ Z_ : ByteArray, ⟨#[38, 39]⟩ ++ s = Z_ := ⟨_, rfl⟩
        obtain ⟨B, hB⟩ : ∃ Z_ : ByteArray, A ++ ⟨#[32]⟩ = Z_ := ⟨_, rfl⟩
        have sA : A.size = 2 + s.size := by rw [← hA, ByteArray.size_append]; rfl
        have sB : B.size = A.size + 1 := by rw [← hB, ByteArray.size_append]; rfl
        obtain ⟨D, hD⟩ : ∃ Z_ : ByteArray, ⟨#[109, 117, 116, 32]⟩ ++ C = Z_ := ⟨_, rfl⟩
        have sD : D.size = 4 + C.size := by rw [← hD, ByteArray.size_append]; rfl
        have z1 : ¬ (9223372036854775807 < 2 + s.size) := by omega
        have z2 : ¬ (9223372036854775807 < A.size + 1) := by omega
        have z3 : ¬ (9223372036854775807 < B.size + C.size) := by omega
        have z4 : ¬ (9223372036854775807 < 4 + C.size) := by omega
        have z5 : ¬ (9223372036854775807 < B.size + D.size) := by omega
        have HRR : Hid (r = if mb = true then B ++ D else B ++ C) := Lib.hid (by
          rw [hr2]
          cases mb
          · rw [if_neg (by decide), if_neg (by decide), hA, hB]
          · rw [if_pos rfl, if_pos rfl, hA, ← hD, ← hB, show (⟨#[32, 109, 117, 116, 32]⟩ : ByteArray) = ⟨#[32]⟩ ++ ⟨#[109, 117, 116, 32]⟩ from rfl]
            simp only [ByteArray.append_assoc])
        clear hr2 hz sA sB sD h0 hss hpos
        cases mb
        all_goals
          have HW2 : Hid (W2 = W1.alloc (.cells #[.int .u8 11, .int .i64 at_, .int .i64 m, .string s, .slice (some ⟨lb, lo, none⟩) 1 lc] 44)) := Lib.hid HW.out.1
          go_enter Tryz.func49, Tryz.ntmps49
          go_wp2_with fail
          rw [← HW.out.2, ← HW2.out]
          clear c0 c1 c2 c3 c4 HW2
          have e0 : W2.cell? ⟨w0.heap.size, 0, none⟩ = some (.slice (some ⟨b, off, none⟩) N cap) := blk_cell HK.out.2.1 0
          have d2 : W2.cell? ⟨w0.heap.size + 1, 2, none⟩ = some (.int .i64 m) := blk_cell HK.out.2.2 2
          have d3 : W2.cell? ⟨w0.heap.size + 1, 3, none⟩ = some (.string s) := blk_cell HK.out.2.2 3
          have d4 : W2.cell? ⟨w0.heap.size + 1, 4, none⟩ = some (.slice (some ⟨lb, lo, none⟩) 1 lc) := blk_cell HK.out.2.2 4
          refine wp_region_rv 7 GK (kindW [(5, (fun v => v = .string C), (fun _ _ => True))]) (by kernel_rfl) (by kernel_rfl) (kb_trans _) (kb_refl _) (kb_start _ _) (kindW_mono _ (by intro p hp; simp only [List.mem_cons, List.not_mem_nil, or_false] at hp; (subst hp; exact lasts_true))) ?_
          simp only [List.take_succ_cons, List.take_zero, List.drop_succ_cons, List.drop_zero]
          iterate 5 (refine rv_det (by kernel_rfl) rfl (by intro w hG hH; have hc0 := KB.cell hG (fun x => x) (e0); have hc1 := KB.cell hG (fun x => x) (d4); have hc2 := KB.cell hG (fun x => x) (hcl); go_simp; first | done | with_reducible rfl) ?_; simp only [Act.put, List.setIfInBounds_toArray, List.set_cons_zero, List.set_cons_succ])
          refine rv_rel (by kernel_rfl) rfl ⟨_, rfl⟩ (by
            intro w hG hH
            refine opVal_call (by go_simp; first | done | exact ⟨⟨rfl, rfl⟩, rfl⟩) ?_
            refine (HC.out _ (HK.out.1.trans hG)).mono ?_
            rintro e w' ⟨rfl, hq⟩
            exact ⟨_, rfl, rfl, by first | (obtain ⟨nq, rfl⟩ := hq; exact (KB.refl _ _).drewN _) | (subst hq; exact KB.refl _ _) | exact hq, trivial⟩) ?_
          rintro v rfl
          simp only [Act.put, List.setIfInBounds_toArray, List.set_cons_zero, List.set_cons_succ]
          refine rv_det (by kernel_rfl) rfl (by intro w hG hH; go_simp; first | done | with_reducible rfl) ?_
          simp only [Act.put, List.setIfInBounds_toArray, List.set_cons_zero, List.set_cons_succ]
          refine rv_nil (fun w hG hH => ?_)
          have d2 := hG.cell (p := ⟨w0.heap.size + 1, 2, none⟩) (fun x => x) d2
          have d3 := hG.cell (p := ⟨w0.heap.size + 1, 3, none⟩) (fun x => x) d3
          have K := Lib.hid (HK.out.1.trans hG)
          clear hG hH e0 d4 hcl
          go_wp2_with fail
          go_ret
          exact ⟨ret_eq (by rw [HRR.out]; rfl), K.out⟩
    · go_enter Tryz.func49, Tryz.ntmps49
      go_wp2_with fail
      go_ret
      exact ⟨ret_eq (by rw [HR.out]; rfl), by have := HK.out.1; rw [HW.out.1, HW.out.2] at this; exact this⟩
theorem typ_any (ts : List Nd) (h : TOk ts) (a : Option Addr) (cap n : Nat) (w : World) (hn : n < ts.length) (hts : NodesAt w a ts) (hty : isTypeB (ts.getD n nd0).k = true) :
    TxtCall 49 #[.agg #[.slice a ts.length cap], .int .i64 n] w (Ty ts n) := typ_any_p ts h a cap ts.length n w hn (by omega) hts hty
end Go.Proofs.YtoophdcagpfmpaaGreatDoor

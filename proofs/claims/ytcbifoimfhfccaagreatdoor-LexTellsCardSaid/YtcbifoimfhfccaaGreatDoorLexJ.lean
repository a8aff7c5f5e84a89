/- The lexer's 'token'. -/
import Derived.Test.YtcbifoimfhfccaaGreatDoorLexI
namespace Go.Proofs.YtcbifoimfhfccaaGreatDoor
open Go.RowKit

theorem KB.above {S : Nat → Prop} {a b c : World} (h : KB F0 a b) (k : KB S b c) (hS : ∀ i, S i → a.heap.size ≤ i) : KB F0 a c :=
  ⟨k.os.trans h.os, k.tape.trans h.tape, k.output.trans h.output, Nat.le_trans h.size k.size, fun i hi _ =>
    (k.block i (Nat.lt_of_lt_of_le hi h.size) (fun hs => by have := hS i hs; omega)).trans (h.block i hi (fun x => x))⟩
def tkC (t : Tk) : Array Value := #[.int .u8 (t.k : Nat), .int .i64 t.at_, .int .i64 t.n, .string t.s]
def TK (w : World) (X : Nat) (t : Tk) : Prop := w.heap[X]? = some (.cells (tkC t) 27 (0, 0))
theorem ret_tok {fn : Func} {R : Ending → World → Prop} {a : Act} {w : World} {p X : Nat} {t : Tk} (h : fn.results = #[.cell p 27]) (hp : a.tmps.getD p undef = .pointer (some ⟨X, 0, none⟩))
    (hc : TK w X t) (hd : a.defers = []) (hR : R (.returned (.agg (tkC t))) w) : bodyPost Tryz.prog fn R .ret a w := by
  refine bodyPost_ret (v := .agg (tkC t)) ?_ hd hR
  have hp' : a.tmps[p]?.getD undef = .pointer (some ⟨X, 0, none⟩) := by simpa using hp
  have c0 : w.cell? ⟨X, 0, none⟩ = some (.int .u8 (t.k : Nat)) := blk_cell hc 0
  have c1 : w.cell? ⟨X, 1, none⟩ = some (.int .i64 t.at_) := blk_cell hc 1
  have c2 : w.cell? ⟨X, 2, none⟩ = some (.int .i64 t.n) := blk_cell hc 2
  have c3 : w.cell? ⟨X, 3, none⟩ = some (.string t.s) := blk_cell hc 3
  simp only [results, h]
  go_simp
  rfl
/-- A token's four cells written. -/
theorem TK.set {w : World} {X : Nat} {t0 : Tk} (h : TK w X t0) (t : Tk) :
    TK ((((w.setCell ⟨X, 0, none⟩ (.int .u8 (t.k : Nat))).setCell ⟨X, 1, none⟩ (.int .i64 t.at_)).setCell ⟨X, 2, none⟩ (.int .i64 t.n)).setCell ⟨X, 3, none⟩ (.string t.s)) X t :=
  setCell_blk (i := 3) (setCell_blk (i := 2) (setCell_blk (i := 1) (setCell_blk (i := 0) h (.int .u8 (t.k : Nat))) (.int .i64 t.at_)) (.int .i64 t.n)) (.string t.s)
theorem kb_set4 (w : World) (X : Nat) (a b c d : Value) : KB (fun k => k = X) w ((((w.setCell ⟨X, 0, none⟩ a).setCell ⟨X, 1, none⟩ b).setCell ⟨X, 2, none⟩ c).setCell ⟨X, 3, none⟩ d) :=
  (((kb_set w X 0 a).trans (kb_set _ X 1 b)).trans (kb_set _ X 2 c)).trans (kb_set _ X 3 d)
theorem TK.kb {w w' : World} {X : Nat} {t : Tk} (h : TK w X t) {S : Nat → Prop} (hk : KB S w w') (hS : ¬ S X) : TK w' X t := hk.heap hS h

theorem byte_ext {s : ByteArray} {i e : Nat} (h1 : i < e) (h2 : e ≤ s.size) : byteAt (s.extract i e) 0 = byteAt s i := by
  unfold byteAt
  rw [Lib.extract_data]
  have h3 : i < s.data.toList.length := by rw [size_len]; omega
  rw [List.getD_eq_getElem?_getD, List.getD_eq_getElem?_getD, List.getElem?_take_of_lt (by omega), List.getElem?_drop, Nat.add_zero]
theorem toList_beq (s : ByteArray) (l : List UInt8) : (s.toList == l) = decide (s = ⟨l.toArray⟩) := by
  rw [ByteArray.toList_eq, Bool.eq_iff_iff, beq_iff_eq, decide_eq_true_iff]
  constructor
  · intro h; subst h; simp
  · rintro rfl; simp
theorem word_great {s : ByteArray} {i e : Nat} (_hi : i < s.size) (h1 : i < e) (h2 : e ≤ s.size) (hg : greatB (byteAt s i) = true) : wordB (s.extract i e) = decide (s.extract i e = ⟨#[66, 111, 120]⟩) := by
  have hb := byte_ext h1 h2
  generalize s.extract i e = x at hb
  rw [← hb] at hg
  rw [Bool.eq_iff_iff, wordB_iff, decide_eq_true_iff]
  constructor
  · intro h
    simp only [wordL, List.mem_cons, List.not_mem_nil, or_false] at h
    rcases h with rfl | rfl | rfl | rfl | rfl | rfl | rfl | rfl | rfl | rfl | rfl | rfl | rfl | rfl | rfl | rfl | rfl | rfl | rfl
    all_goals first | rfl | (exfalso; revert hg; decide)
  · rintro rfl
    simp [wordL]

set_option maxRecDepth 100000 in
set_option maxHeartbeats 8000000 in
theorem token_any (w00 : World) (hT : Tab w00) (b : Nat) (hb0 : w00.heap.size ≤ b) (s : ByteArray) (i : Nat) (hi : i < s.size) (hs : s.size ≤ 65536) (w : World) (hk0 : KB F0 w00 w) (h : LX w b s i false) :
    Calls Tryz.prog 30 #[.pointer (some ⟨b, 0, none⟩)] w fun e w' => ∃ t : Tk, e = .returned (.agg (tkC t)) ∧ ((oneS s i).2.2 = true → t = (oneS s i).1) ∧ LX w' b s (oneS s i).2.1 (!(oneS s i).2.2) ∧ KB (SB b) w w' := by
  obtain ⟨w0, rfl⟩ : ∃ w0, w0 = w := ⟨_, rfl⟩
  have hbw : b < w0.heap.size := heap_lt h
  have TB := Lib.hid (fun (W : World) (hk : KB (SB b) w0 W) => hT.kb (hk0.above hk (fun g e => by rw [e]; exact hb0)))
  have c1 : w0.cell? ⟨b, 1, none⟩ = some (.int .i64 i) := blk_cell h 1
  obtain ⟨O, hO⟩ : ∃ O, O = oneS s i := ⟨_, rfl⟩
  rw [← hO]
  have HO := Lib.hid hO
  obtain ⟨W1, hW1⟩ : ∃ W1, W1 = (w0.alloc (.cells #[.int .u8 0, .int .i64 0, .int .i64 0, .string ⟨#[]⟩] 27)).alloc (.cells #[.int .u8 0, .int .i64 i, .int .i64 0, .string ⟨#[]⟩] 27) := ⟨_, rfl⟩
  have k1 : KB F0 w0 W1 := by rw [hW1]; exact ((KB.refl _ _).alloc _).alloc _
  have hs0 : (w0.alloc (.cells #[.int .u8 0, .int .i64 0, .int .i64 0, .string ⟨#[]⟩] 27)).heap.size = w0.heap.size + 1 := by simp
  have hRr : TK W1 w0.heap.size ⟨0, 0, 0, ⟨#[]⟩⟩ := by rw [hW1]; exact ((KB.refl F0 _).alloc _).heap (fun x => x) (alloc_new _ _)
  have hTt : TK W1 (w0.heap.size + 1) ⟨0, i, 0, ⟨#[]⟩⟩ := by rw [hW1, ← hs0]; exact alloc_new _ _
  have hx1 : LX W1 b s i false := h.kb k1
  have x0 : W1.cell? ⟨b, 0, none⟩ = some (.string s) := blk_cell hx1 0
  have x1 : W1.cell? ⟨b, 1, none⟩ = some (.int .i64 i) := blk_cell hx1 1
  have hbi := byteAt_eq s i hi
  obtain ⟨c, hc⟩ : ∃ c, c = byteAt s i := ⟨_, rfl⟩
  rw [← hc] at hbi
  have HC := Lib.hid hc
  have H1 := Lib.hid (And.intro hRr (And.intro hTt (And.intro hx1 (k1.mono (S' := SB b) (fun _ _ x => x.elim)))))
  have HW1 := Lib.hid hW1
  have hile : i ≤ s.size := by omega
  have hRb : ¬ w0.heap.size = b := by omega
  have hTb : ¬ w0.heap.size + 1 = b := by omega
  clear h hT hk0 hO hs0 hRr hTt hx1 k1 hc
  have ca1 : ((w0.alloc (.cells #[.int .u8 0, .int .i64 0, .int .i64 0, .string ⟨#[]⟩] 27))).cell? ⟨b, 1, none⟩ = some (.int .i64 i) := ((KB.refl F0 w0).alloc _).cell (p := ⟨b, 1, none⟩) (fun x => x) c1
  rw [hW1] at x0 x1
  clear hW1
  go_enter Tryz.func30, Tryz.ntmps30
  go_wp2_with fail
  rw [← HW1.out] at x0 x1 ⊢
  clear ca1 c1
  refine wp_region_rv 10 GQ (kindV []) (by kernel_rfl) (by kernel_rfl) GQ.trans GQ.refl (GQ.start _) (kindV_mono _) ?_
  simp only [List.take_succ_cons, List.take_zero, List.drop_succ_cons, List.drop_zero]
  iterate 10 (refine rv_det (by kernel_rfl) rfl (by intro w hG hH; obtain ⟨n, rfl⟩ := hG; go_simp; first | done | with_reducible rfl) ?_; simp only [Act.put, List.setIfInBounds_toArray, List.set_cons_zero, List.set_cons_succ])
  refine rv_nil (fun w hG hH => ?_)
  obtain ⟨n, rfl⟩ := hG
  clear hH
  have H2 := Lib.hid (And.intro (H1.out.1.kb (KB.refl (SB b) _ |>.drewN n) hRb) (And.intro (H1.out.2.1.kb (KB.refl (SB b) _ |>.drewN n) hTb) (And.intro (H1.out.2.2.1.drewN n) (H1.out.2.2.2.drewN n))))
  obtain ⟨W2, hW2⟩ : ∃ W2, W2 = W1.drewN n := ⟨_, rfl⟩
  rw [← hW2] at H2 ⊢
  clear hW2 x0 x1 hbi
  have SM := Lib.hid (lxSmall_any c W2)
  have GR := Lib.hid (lxGreat_any c W2)
  have DG := Lib.hid (lxDigit_any c W2)
  obtain ⟨sm, hsm⟩ : ∃ sm, sm = smallB c := ⟨_, rfl⟩
  obtain ⟨gr, hgr⟩ : ∃ gr, gr = greatB c := ⟨_, rfl⟩
  obtain ⟨dg, hdg⟩ : ∃ dg, dg = digitB c := ⟨_, rfl⟩
  rw [← hsm] at SM
  rw [← hgr] at GR
  rw [← hdg] at DG
  have HB := Lib.hid (And.intro hsm (And.intro hgr hdg))
  clear hsm hgr hdg
  go_wp2_with fail
  refine SM.out.mono ?_
  rintro e w' ⟨rfl, rfl⟩
  cases sm
  case true =>
    have HG : Hid (gr = false) := Lib.hid (by rw [HB.out.2.1]; exact small_not_great HB.out.1.symm)
    have NM := Lib.hid (name_any b s i false hile hs W2 H2.out.2.2.1)
    obtain ⟨E, hE⟩ : ∃ E, E = nameE s i false := ⟨_, rfl⟩
    rw [← hE] at NM
    have HO1 : Hid (O = if E.2 = true then (⟨if wordB (s.extract i E.1) = true then 1 else 2, i, 0, s.extract i E.1⟩, E.1, true) else (tk0, E.1, false)) := Lib.hid (by
      rw [HO.out, oneS]
      simp only
      rw [← HC.out, ← HB.out.1, ← HB.out.2.1, HG.out, ← hE]
      rfl)
    clear hE
    go_wp2_with fail
    refine NM.out.mono ?_
    rintro e W3 ⟨rfl, hx3, k3⟩
    obtain ⟨V, hV⟩ : ∃ V, V = (if E.2 = true then s.extract i E.1 else (⟨#[]⟩ : ByteArray)) := ⟨_, rfl⟩
    rw [← hV]
    have HV := Lib.hid hV
    clear hV
    have hT3 := H2.out.2.1.kb k3 hTb
    have t0 : W3.cell? ⟨w0.heap.size + 1, 0, none⟩ = some (.int .u8 0) := blk_cell hT3 0
    have tf0 : W3.frozen? ⟨w0.heap.size + 1, 0, none⟩ = false := blk_frozen hT3 0
    have hT4 := setCell_blk (i := 0) hT3 (.int .u8 2)
    have t3 : (W3.setCell ⟨w0.heap.size + 1, 0, none⟩ (.int .u8 2)).cell? ⟨w0.heap.size + 1, 3, none⟩ = some (.string ⟨#[]⟩) := blk_cell hT4 3
    have tf3 : (W3.setCell ⟨w0.heap.size + 1, 0, none⟩ (.int .u8 2)).frozen? ⟨w0.heap.size + 1, 3, none⟩ = false := blk_frozen hT4 3
    go_wp2_with fail
    obtain ⟨W5, hW5⟩ : ∃ W5, W5 = (W3.setCell ⟨w0.heap.size + 1, 0, none⟩ (.int .u8 2)).setCell ⟨w0.heap.size + 1, 3, none⟩ (.string V) := ⟨_, rfl⟩
    rw [← hW5]
    have hT5 : TK W5 (w0.heap.size + 1) ⟨2, i, 0, V⟩ := by rw [hW5]; exact setCell_blk (i := 3) hT4 (.string V)
    have hk35 : KB (fun k => k = w0.heap.size + 1) W3 W5 := by rw [hW5]; exact (kb_set W3 (w0.heap.size + 1) 0 _).trans (kb_set _ (w0.heap.size + 1) 3 _)
    have hR5 := (H2.out.1.kb k3 hRb).kb hk35 (fun e => by omega)
    have hx5 : LX W5 b s E.1 (!E.2) := hk35.heap (fun e => by omega) hx3
    have kb5 : KB (SB b) w0 W5 := by rw [hW5]; exact ((H2.out.2.2.2.trans k3).setCell (p := ⟨w0.heap.size + 1, 0, none⟩) (fun hh => by have h1 : w0.heap.size + 1 < w0.heap.size := hh; omega) _).setCell (p := ⟨w0.heap.size + 1, 3, none⟩) (fun hh => by have h1 : w0.heap.size + 1 < w0.heap.size := hh; omega) _
    have H5 := Lib.hid (And.intro hT5 (And.intro hR5 (And.intro hx5 kb5)))
    clear hT3 hT4 t0 tf0 t3 tf3 hW5 hT5 hk35 hR5 hx5 kb5 hx3 k3
    have q3 : W5.cell? ⟨w0.heap.size + 1, 3, none⟩ = some (.string V) := blk_cell H5.out.1 3
    have WD := Lib.hid (fun (W : World) (hk : KB F0 W5 W) => words_any W (TB.out W (H5.out.2.2.2.trans (hk.mono (fun _ _ x => x.elim)))))
    obtain ⟨q, hq⟩ : ∃ q, q = wordB V := ⟨_, rfl⟩
    have HQ := Lib.hid hq
    clear hq
    refine wp_region_rv 4 GK (kindW [(0, fun v => ∃ g, v = .slice (some ⟨g, 0, none⟩) 19 19, fun v w => ∃ g, v = .slice (some ⟨g, 0, none⟩) 19 19 ∧ SL w g wordL), (3, fun v => v = .bool q, fun _ _ => True)]) (by kernel_rfl) (by kernel_rfl) (kb_trans _) (kb_refl _) (kb_start _ _) (kindW_mono _ (by
      intro p hp; simp only [List.mem_cons, List.not_mem_nil, or_false] at hp
      rcases hp with rfl | rfl
      · exact fun v a b hG ⟨g, h1, h2⟩ => ⟨g, h1, h2.kb hG⟩
      · exact lasts_true)) ?_
    simp only [List.take_succ_cons, List.take_zero, List.drop_succ_cons, List.drop_zero]
    refine rv_rel (by kernel_rfl) rfl ⟨_, 0, rfl⟩ (by
      intro w hG hH
      refine opVal_call (by go_simp; first | done | exact ⟨⟨rfl, rfl⟩, rfl⟩) ?_
      refine (WD.out w hG).mono ?_
      rintro e w' ⟨g, rfl, h1, h2⟩
      exact ⟨_, rfl, ⟨g, rfl⟩, h2, ⟨g, rfl, h1⟩⟩) ?_
    rintro v ⟨g, rfl⟩
    simp only [Act.put, List.setIfInBounds_toArray, List.set_cons_zero, List.set_cons_succ]
    iterate 2 (refine rv_det (by kernel_rfl) rfl (by intro w hG hH; have hc0 := KB.cell hG (p := ⟨w0.heap.size + 1, 3, none⟩) (fun x => x) q3; go_simp; first | done | with_reducible rfl) ?_; simp only [Act.put, List.setIfInBounds_toArray, List.set_cons_zero, List.set_cons_succ])
    refine rv_rel (by kernel_rfl) rfl ⟨_, rfl⟩ (by
      intro w hG hH
      obtain ⟨g', e1, hsl⟩ := hH _ (List.Mem.head _) (by kernel_rfl)
      simp only [Value.slice.injEq, Option.some.injEq, Addr.mk.injEq, and_true] at e1
      subst e1
      refine opVal_call (by go_simp; first | done | exact ⟨⟨rfl, rfl⟩, rfl⟩) ?_
      refine (contains_w g V w hsl).mono ?_
      rintro e w' ⟨rfl, hq⟩
      exact ⟨_, rfl, (show Value.bool (wordB V) = .bool q by rw [HQ.out]), by rw [hq]; exact KB.refl _ _, trivial⟩) ?_
    rintro v rfl
    simp only [Act.put, List.setIfInBounds_toArray, List.set_cons_zero, List.set_cons_succ]
    refine rv_nil (fun W7 hk7 hH => ?_)
    clear hH q3
    have hT7 := H5.out.1.kb hk7 (fun x => x)
    have hR7 := H5.out.2.1.kb hk7 (fun x => x)
    have HF := Lib.hid (And.intro hT7 (And.intro hR7 (And.intro (H5.out.2.2.1.kb hk7) (H5.out.2.2.2.trans (hk7.mono (fun _ _ x => x.elim))))))
    have HE : Hid (O.2.1 = E.1 ∧ O.2.2 = E.2 ∧ (E.2 = true → O.1 = ⟨if wordB V = true then 1 else 2, i, 0, V⟩)) := Lib.hid (by
      rw [HO1.out, HV.out]
      by_cases h : E.2 = true
      · rw [if_pos h, if_pos h]; exact ⟨rfl, h.symm, fun _ => rfl⟩
      · rw [if_neg h]; exact ⟨rfl, by simpa using h, fun h' => absurd h' h⟩)
    clear hT7 hR7 hk7
    cases q
    case true =>
      have t0 : W7.cell? ⟨w0.heap.size + 1, 0, none⟩ = some (.int .u8 2) := blk_cell HF.out.1 0
      have tf0 : W7.frozen? ⟨w0.heap.size + 1, 0, none⟩ = false := blk_frozen HF.out.1 0
      have HF2 : Hid (TK (W7.setCell ⟨w0.heap.size + 1, 0, none⟩ (.int .u8 1)) (w0.heap.size + 1) ⟨1, i, 0, V⟩ ∧ TK (W7.setCell ⟨w0.heap.size + 1, 0, none⟩ (.int .u8 1)) w0.heap.size ⟨0, 0, 0, ⟨#[]⟩⟩ ∧ LX (W7.setCell ⟨w0.heap.size + 1, 0, none⟩ (.int .u8 1)) b s E.1 (!E.2) ∧ KB (SB b) w0 (W7.setCell ⟨w0.heap.size + 1, 0, none⟩ (.int .u8 1))) := Lib.hid (by
        have kk := kb_set W7 (w0.heap.size + 1) 0 (.int .u8 1)
        exact ⟨setCell_blk (i := 0) HF.out.1 (.int .u8 1), HF.out.2.1.kb kk (fun e => by omega), kk.heap (fun e => by omega) HF.out.2.2.1, HF.out.2.2.2.setCell (p := ⟨w0.heap.size + 1, 0, none⟩) (fun hh => by have h1 : w0.heap.size + 1 < w0.heap.size := hh; omega) _⟩)
      have y0 : (W7.setCell ⟨w0.heap.size + 1, 0, none⟩ (.int .u8 1)).cell? ⟨w0.heap.size + 1, 0, none⟩ = some (.int .u8 (1)) := blk_cell HF2.out.1 0
      have y1 : (W7.setCell ⟨w0.heap.size + 1, 0, none⟩ (.int .u8 1)).cell? ⟨w0.heap.size + 1, 1, none⟩ = some (.int .i64 (i)) := blk_cell HF2.out.1 1
      have y2 : (W7.setCell ⟨w0.heap.size + 1, 0, none⟩ (.int .u8 1)).cell? ⟨w0.heap.size + 1, 2, none⟩ = some (.int .i64 (0)) := blk_cell HF2.out.1 2
      have y3 : (W7.setCell ⟨w0.heap.size + 1, 0, none⟩ (.int .u8 1)).cell? ⟨w0.heap.size + 1, 3, none⟩ = some (.string V) := blk_cell HF2.out.1 3
      have r0 : ((W7.setCell ⟨w0.heap.size + 1, 0, none⟩ (.int .u8 1))).cell? ⟨w0.heap.size, 0, none⟩ = some (.int .u8 0) := blk_cell (HF2.out.2.1) 0
      have rf0 : ((W7.setCell ⟨w0.heap.size + 1, 0, none⟩ (.int .u8 1))).frozen? ⟨w0.heap.size, 0, none⟩ = false := blk_frozen (HF2.out.2.1) 0
      have r1 : (((W7.setCell ⟨w0.heap.size + 1, 0, none⟩ (.int .u8 1))).setCell ⟨w0.heap.size, 0, none⟩ (.int .u8 (1))).cell? ⟨w0.heap.size, 1, none⟩ = some (.int .i64 0) := blk_cell (setCell_blk (i := 0) (HF2.out.2.1) (.int .u8 (1))) 1
      have rf1 : (((W7.setCell ⟨w0.heap.size + 1, 0, none⟩ (.int .u8 1))).setCell ⟨w0.heap.size, 0, none⟩ (.int .u8 (1))).frozen? ⟨w0.heap.size, 1, none⟩ = false := blk_frozen (setCell_blk (i := 0) (HF2.out.2.1) (.int .u8 (1))) 1
      have r2 : ((((W7.setCell ⟨w0.heap.size + 1, 0, none⟩ (.int .u8 1))).setCell ⟨w0.heap.size, 0, none⟩ (.int .u8 (1))).setCell ⟨w0.heap.size, 1, none⟩ (.int .i64 (i))).cell? ⟨w0.heap.size, 2, none⟩ = some (.int .i64 0) := blk_cell (setCell_blk (i := 1) (setCell_blk (i := 0) (HF2.out.2.1) (.int .u8 (1))) (.int .i64 (i))) 2
      have rf2 : ((((W7.setCell ⟨w0.heap.size + 1, 0, none⟩ (.int .u8 1))).setCell ⟨w0.heap.size, 0, none⟩ (.int .u8 (1))).setCell ⟨w0.heap.size, 1, none⟩ (.int .i64 (i))).frozen? ⟨w0.heap.size, 2, none⟩ = false := blk_frozen (setCell_blk (i := 1) (setCell_blk (i := 0) (HF2.out.2.1) (.int .u8 (1))) (.int .i64 (i))) 2
      have r3 : (((((W7.setCell ⟨w0.heap.size + 1, 0, none⟩ (.int .u8 1))).setCell ⟨w0.heap.size, 0, none⟩ (.int .u8 (1))).setCell ⟨w0.heap.size, 1, none⟩ (.int .i64 (i))).setCell ⟨w0.heap.size, 2, none⟩ (.int .i64 (0))).cell? ⟨w0.heap.size, 3, none⟩ = some (.string ⟨#[]⟩) := blk_cell (setCell_blk (i := 2) (setCell_blk (i := 1) (setCell_blk (i := 0) (HF2.out.2.1) (.int .u8 (1))) (.int .i64 (i))) (.int .i64 (0))) 3
      have rf3 : (((((W7.setCell ⟨w0.heap.size + 1, 0, none⟩ (.int .u8 1))).setCell ⟨w0.heap.size, 0, none⟩ (.int .u8 (1))).setCell ⟨w0.heap.size, 1, none⟩ (.int .i64 (i))).setCell ⟨w0.heap.size, 2, none⟩ (.int .i64 (0))).frozen? ⟨w0.heap.size, 3, none⟩ = false := blk_frozen (setCell_blk (i := 2) (setCell_blk (i := 1) (setCell_blk (i := 0) (HF2.out.2.1) (.int .u8 (1))) (.int .i64 (i))) (.int .i64 (0))) 3
      go_wp2
      (try simp only [Exit.inBlock, Exit.then])
      refine ret_tok (t := ⟨1, i, 0, V⟩) rfl rfl (by first | exact setCell_blk (i := 3) (setCell_blk (i := 2) (setCell_blk (i := 1) (setCell_blk (i := 0) (HF2.out.2.1) (.int .u8 (1))) (.int .i64 (i))) (.int .i64 (0))) (.string V) | (have hz := setCell_blk (i := 3) (setCell_blk (i := 2) (setCell_blk (i := 1) (setCell_blk (i := 0) (HF2.out.2.1) (.int .u8 (1))) (.int .i64 (i))) (.int .i64 (0))) (.string V); exact hz)) rfl ?_
      exact ⟨_, rfl, fun hok => by rw [HE.out.2.2 (by rw [← HE.out.2.1]; exact hok), ← HQ.out]; rfl, by rw [HE.out.1, HE.out.2.1]; exact (kb_set4 (W7.setCell ⟨w0.heap.size + 1, 0, none⟩ (.int .u8 1)) w0.heap.size (.int .u8 (1)) (.int .i64 (i)) (.int .i64 (0)) (.string V)).heap (fun e => by omega) HF2.out.2.2.1,
        (((HF2.out.2.2.2.setCell (p := ⟨w0.heap.size, 0, none⟩) (fun hh => absurd hh (Nat.lt_irrefl _)) (.int .u8 (1))).setCell (p := ⟨w0.heap.size, 1, none⟩) (fun hh => absurd hh (Nat.lt_irrefl _)) (.int .i64 (i))).setCell (p := ⟨w0.heap.size, 2, none⟩) (fun hh => absurd hh (Nat.lt_irrefl _)) (.int .i64 (0))).setCell (p := ⟨w0.heap.size, 3, none⟩) (fun hh => absurd hh (Nat.lt_irrefl _)) (.string V)⟩
    case false =>
      have y0 : W7.cell? ⟨w0.heap.size + 1, 0, none⟩ = some (.int .u8 (2)) := blk_cell HF.out.1 0
      have y1 : W7.cell? ⟨w0.heap.size + 1, 1, none⟩ = some (.int .i64 (i)) := blk_cell HF.out.1 1
      have y2 : W7.cell? ⟨w0.heap.size + 1, 2, none⟩ = some (.int .i64 (0)) := blk_cell HF.out.1 2
      have y3 : W7.cell? ⟨w0.heap.size + 1, 3, none⟩ = some (.string V) := blk_cell HF.out.1 3
      have r0 : (W7).cell? ⟨w0.heap.size, 0, none⟩ = some (.int .u8 0) := blk_cell (HF.out.2.1) 0
      have rf0 : (W7).frozen? ⟨w0.heap.size, 0, none⟩ = false := blk_frozen (HF.out.2.1) 0
      have r1 : ((W7).setCell ⟨w0.heap.size, 0, none⟩ (.int .u8 (2))).cell? ⟨w0.heap.size, 1, none⟩ = some (.int .i64 0) := blk_cell (setCell_blk (i := 0) (HF.out.2.1) (.int .u8 (2))) 1
      have rf1 : ((W7).setCell ⟨w0.heap.size, 0, none⟩ (.int .u8 (2))).frozen? ⟨w0.heap.size, 1, none⟩ = false := blk_frozen (setCell_blk (i := 0) (HF.out.2.1) (.int .u8 (2))) 1
      have r2 : (((W7).setCell ⟨w0.heap.size, 0, none⟩ (.int .u8 (2))).setCell ⟨w0.heap.size, 1, none⟩ (.int .i64 (i))).cell? ⟨w0.heap.size, 2, none⟩ = some (.int .i64 0) := blk_cell (setCell_blk (i := 1) (setCell_blk (i := 0) (HF.out.2.1) (.int .u8 (2))) (.int .i64 (i))) 2
      have rf2 : (((W7).setCell ⟨w0.heap.size, 0, none⟩ (.int .u8 (2))).setCell ⟨w0.heap.size, 1, none⟩ (.int .i64 (i))).frozen? ⟨w0.heap.size, 2, none⟩ = false := blk_frozen (setCell_blk (i := 1) (setCell_blk (i := 0) (HF.out.2.1) (.int .u8 (2))) (.int .i64 (i))) 2
      have r3 : ((((W7).setCell ⟨w0.heap.size, 0, none⟩ (.int .u8 (2))).setCell ⟨w0.heap.size, 1, none⟩ (.int .i64 (i))).setCell ⟨w0.heap.size, 2, none⟩ (.int .i64 (0))).cell? ⟨w0.heap.size, 3, none⟩ = some (.string ⟨#[]⟩) := blk_cell (setCell_blk (i := 2) (setCell_blk (i := 1) (setCell_blk (i := 0) (HF.out.2.1) (.int .u8 (2))) (.int .i64 (i))) (.int .i64 (0))) 3
      have rf3 : ((((W7).setCell ⟨w0.heap.size, 0, none⟩ (.int .u8 (2))).setCell ⟨w0.heap.size, 1, none⟩ (.int .i64 (i))).setCell ⟨w0.heap.size, 2, none⟩ (.int .i64 (0))).frozen? ⟨w0.heap.size, 3, none⟩ = false := blk_frozen (setCell_blk (i := 2) (setCell_blk (i := 1) (setCell_blk (i := 0) (HF.out.2.1) (.int .u8 (2))) (.int .i64 (i))) (.int .i64 (0))) 3
      go_wp2
      (try simp only [Exit.inBlock, Exit.then])
      refine ret_tok (t := ⟨2, i, 0, V⟩) rfl rfl (by first | exact setCell_blk (i := 3) (setCell_blk (i := 2) (setCell_blk (i := 1) (setCell_blk (i := 0) (HF.out.2.1) (.int .u8 (2))) (.int .i64 (i))) (.int .i64 (0))) (.string V) | (have hz := setCell_blk (i := 3) (setCell_blk (i := 2) (setCell_blk (i := 1) (setCell_blk (i := 0) (HF.out.2.1) (.int .u8 (2))) (.int .i64 (i))) (.int .i64 (0))) (.string V); exact hz)) rfl ?_
      exact ⟨_, rfl, fun hok => by rw [HE.out.2.2 (by rw [← HE.out.2.1]; exact hok), ← HQ.out]; rfl, by rw [HE.out.1, HE.out.2.1]; exact (kb_set4 (W7) w0.heap.size (.int .u8 (2)) (.int .i64 (i)) (.int .i64 (0)) (.string V)).heap (fun e => by omega) HF.out.2.2.1,
        (((HF.out.2.2.2.setCell (p := ⟨w0.heap.size, 0, none⟩) (fun hh => absurd hh (Nat.lt_irrefl _)) (.int .u8 (2))).setCell (p := ⟨w0.heap.size, 1, none⟩) (fun hh => absurd hh (Nat.lt_irrefl _)) (.int .i64 (i))).setCell (p := ⟨w0.heap.size, 2, none⟩) (fun hh => absurd hh (Nat.lt_irrefl _)) (.int .i64 (0))).setCell (p := ⟨w0.heap.size, 3, none⟩) (fun hh => absurd hh (Nat.lt_irrefl _)) (.string V)⟩
  case false =>
    go_wp2_with fail
    refine GR.out.mono ?_
    rintro e w' ⟨rfl, rfl⟩
    cases gr
    case true =>
      have NM := Lib.hid (name_any b s i true hile hs W2 H2.out.2.2.1)
      obtain ⟨E, hE⟩ : ∃ E, E = nameE s i true := ⟨_, rfl⟩
      rw [← hE] at NM
      have HO1 : Hid (O = if E.2 = true then (⟨if wordB (s.extract i E.1) = true then 1 else 3, i, 0, s.extract i E.1⟩, E.1, true) else (tk0, E.1, false)) := Lib.hid (by
        rw [HO.out, oneS]
        simp only
        rw [← HC.out, ← HB.out.1, ← HB.out.2.1, ← hE]
        rfl)
      have hEb : Hid (E.2 = true → i < E.1 ∧ E.1 ≤ s.size) := Lib.hid (fun _ => by
        have hr : rowB (byteAt s i) = true := row_of_great (by rw [← HC.out]; exact HB.out.2.1.symm)
        have := nameE_lt (g := true) hi hr (by cases greatB (byteAt s i) <;> rfl)
        rw [← hE] at this; exact this)
      clear hE
      go_wp2_with fail
      refine NM.out.mono ?_
      rintro e W3 ⟨rfl, hx3, k3⟩
      obtain ⟨V, hV⟩ : ∃ V, V = (if E.2 = true then s.extract i E.1 else (⟨#[]⟩ : ByteArray)) := ⟨_, rfl⟩
      rw [← hV]
      have HV := Lib.hid hV
      clear hV
      have HQB : Hid (E.2 = true → wordB V = decide (V = ⟨#[66, 111, 120]⟩)) := Lib.hid (fun h => by
        rw [HV.out, if_pos h]
        exact word_great hi (hEb.out h).1 (hEb.out h).2 (by rw [← HC.out]; exact HB.out.2.1.symm))
      have HE : Hid (O.2.1 = E.1 ∧ O.2.2 = E.2 ∧ (E.2 = true → O.1 = ⟨if wordB V = true then 1 else 3, i, 0, V⟩)) := Lib.hid (by
        rw [HO1.out, HV.out]
        by_cases h : E.2 = true
        · rw [if_pos h, if_pos h]; exact ⟨rfl, h.symm, fun _ => rfl⟩
        · rw [if_neg h]; exact ⟨rfl, by simpa using h, fun h' => absurd h' h⟩)
      have tq0 : (V.toList == [66, 111, 120]) = decide (V = ⟨#[66, 111, 120]⟩) := toList_beq V [66, 111, 120]
      obtain ⟨q, hq⟩ : ∃ q, q = decide (V = ⟨#[66, 111, 120]⟩) := ⟨_, rfl⟩
      rw [← hq] at tq0
      have HQ : Hid (E.2 = true → q = wordB V) := Lib.hid (fun h => by rw [HQB.out h]; exact hq)
      clear hq
      cases q
      case true =>
        have hT3 := H2.out.2.1.kb k3 hTb
        have t0 : W3.cell? ⟨w0.heap.size + 1, 0, none⟩ = some (.int .u8 0) := blk_cell hT3 0
        have tf0 : W3.frozen? ⟨w0.heap.size + 1, 0, none⟩ = false := blk_frozen hT3 0
        have hT4 := setCell_blk (i := 0) hT3 (.int .u8 3)
        have t3 : (W3.setCell ⟨w0.heap.size + 1, 0, none⟩ (.int .u8 3)).cell? ⟨w0.heap.size + 1, 3, none⟩ = some (.string ⟨#[]⟩) := blk_cell hT4 3
        have tf3 : (W3.setCell ⟨w0.heap.size + 1, 0, none⟩ (.int .u8 3)).frozen? ⟨w0.heap.size + 1, 3, none⟩ = false := blk_frozen hT4 3
        obtain ⟨W5, hW5⟩ : ∃ W5, W5 = (W3.setCell ⟨w0.heap.size + 1, 0, none⟩ (.int .u8 3)).setCell ⟨w0.heap.size + 1, 3, none⟩ (.string V) := ⟨_, rfl⟩
        have hT5 : TK W5 (w0.heap.size + 1) ⟨3, i, 0, V⟩ := by rw [hW5]; exact setCell_blk (i := 3) hT4 (.string V)
        have hk35 : KB (fun k => k = w0.heap.size + 1) W3 W5 := by rw [hW5]; exact (kb_set W3 (w0.heap.size + 1) 0 _).trans (kb_set _ (w0.heap.size + 1) 3 _)
        have hR5 := (H2.out.1.kb k3 hRb).kb hk35 (fun e => by omega)
        have hx5 : LX W5 b s E.1 (!E.2) := hk35.heap (fun e => by omega) hx3
        have kb5 : KB (SB b) w0 W5 := by rw [hW5]; exact ((H2.out.2.2.2.trans k3).setCell (p := ⟨w0.heap.size + 1, 0, none⟩) (fun hh => by have h1 : w0.heap.size + 1 < w0.heap.size := hh; omega) _).setCell (p := ⟨w0.heap.size + 1, 3, none⟩) (fun hh => by have h1 : w0.heap.size + 1 < w0.heap.size := hh; omega) _
        have y3' : W5.cell? ⟨w0.heap.size + 1, 3, none⟩ = some (.string V) := blk_cell hT5 3
        have u0 : W5.cell? ⟨w0.heap.size + 1, 0, none⟩ = some (.int .u8 3) := blk_cell hT5 0
        have uf0 : W5.frozen? ⟨w0.heap.size + 1, 0, none⟩ = false := blk_frozen hT5 0
        obtain ⟨W6, hW6⟩ : ∃ W6, W6 = W5.setCell ⟨w0.heap.size + 1, 0, none⟩ (.int .u8 1) := ⟨_, rfl⟩
        have kk : KB (fun k => k = w0.heap.size + 1) W5 W6 := by rw [hW6]; exact kb_set W5 (w0.heap.size + 1) 0 _
        have hT6 : TK W6 (w0.heap.size + 1) ⟨1, i, 0, V⟩ := by rw [hW6]; exact setCell_blk (i := 0) hT5 (.int .u8 1)
        have H5 := Lib.hid (And.intro hT6 (And.intro (hR5.kb kk (fun e => by omega)) (And.intro (show LX W6 b s E.1 (!E.2) from kk.heap (fun e => by omega) hx5) (show KB (SB b) w0 W6 by rw [hW6]; exact kb5.setCell (p := ⟨w0.heap.size + 1, 0, none⟩) (fun hh => by have h1 : w0.heap.size + 1 < w0.heap.size := hh; omega) _))))
        have y0 : W6.cell? ⟨w0.heap.size + 1, 0, none⟩ = some (.int .u8 (1)) := blk_cell H5.out.1 0
        have y1 : W6.cell? ⟨w0.heap.size + 1, 1, none⟩ = some (.int .i64 (i)) := blk_cell H5.out.1 1
        have y2 : W6.cell? ⟨w0.heap.size + 1, 2, none⟩ = some (.int .i64 (0)) := blk_cell H5.out.1 2
        have y3 : W6.cell? ⟨w0.heap.size + 1, 3, none⟩ = some (.string V) := blk_cell H5.out.1 3
        have r0 : (W6).cell? ⟨w0.heap.size, 0, none⟩ = some (.int .u8 0) := blk_cell (H5.out.2.1) 0
        have rf0 : (W6).frozen? ⟨w0.heap.size, 0, none⟩ = false := blk_frozen (H5.out.2.1) 0
        have r1 : ((W6).setCell ⟨w0.heap.size, 0, none⟩ (.int .u8 (1))).cell? ⟨w0.heap.size, 1, none⟩ = some (.int .i64 0) := blk_cell (setCell_blk (i := 0) (H5.out.2.1) (.int .u8 (1))) 1
        have rf1 : ((W6).setCell ⟨w0.heap.size, 0, none⟩ (.int .u8 (1))).frozen? ⟨w0.heap.size, 1, none⟩ = false := blk_frozen (setCell_blk (i := 0) (H5.out.2.1) (.int .u8 (1))) 1
        have r2 : (((W6).setCell ⟨w0.heap.size, 0, none⟩ (.int .u8 (1))).setCell ⟨w0.heap.size, 1, none⟩ (.int .i64 (i))).cell? ⟨w0.heap.size, 2, none⟩ = some (.int .i64 0) := blk_cell (setCell_blk (i := 1) (setCell_blk (i := 0) (H5.out.2.1) (.int .u8 (1))) (.int .i64 (i))) 2
        have rf2 : (((W6).setCell ⟨w0.heap.size, 0, none⟩ (.int .u8 (1))).setCell ⟨w0.heap.size, 1, none⟩ (.int .i64 (i))).frozen? ⟨w0.heap.size, 2, none⟩ = false := blk_frozen (setCell_blk (i := 1) (setCell_blk (i := 0) (H5.out.2.1) (.int .u8 (1))) (.int .i64 (i))) 2
        have r3 : ((((W6).setCell ⟨w0.heap.size, 0, none⟩ (.int .u8 (1))).setCell ⟨w0.heap.size, 1, none⟩ (.int .i64 (i))).setCell ⟨w0.heap.size, 2, none⟩ (.int .i64 (0))).cell? ⟨w0.heap.size, 3, none⟩ = some (.string ⟨#[]⟩) := blk_cell (setCell_blk (i := 2) (setCell_blk (i := 1) (setCell_blk (i := 0) (H5.out.2.1) (.int .u8 (1))) (.int .i64 (i))) (.int .i64 (0))) 3
        have rf3 : ((((W6).setCell ⟨w0.heap.size, 0, none⟩ (.int .u8 (1))).setCell ⟨w0.heap.size, 1, none⟩ (.int .i64 (i))).setCell ⟨w0.heap.size, 2, none⟩ (.int .i64 (0))).frozen? ⟨w0.heap.size, 3, none⟩ = false := blk_frozen (setCell_blk (i := 2) (setCell_blk (i := 1) (setCell_blk (i := 0) (H5.out.2.1) (.int .u8 (1))) (.int .i64 (i))) (.int .i64 (0))) 3
        have HZ : Hid (TK (((((W6).setCell ⟨w0.heap.size, 0, none⟩ (.int .u8 (1))).setCell ⟨w0.heap.size, 1, none⟩ (.int .i64 (i))).setCell ⟨w0.heap.size, 2, none⟩ (.int .i64 (0))).setCell ⟨w0.heap.size, 3, none⟩ (.string V)) w0.heap.size ⟨1, i, 0, V⟩ ∧ LX (((((W6).setCell ⟨w0.heap.size, 0, none⟩ (.int .u8 (1))).setCell ⟨w0.heap.size, 1, none⟩ (.int .i64 (i))).setCell ⟨w0.heap.size, 2, none⟩ (.int .i64 (0))).setCell ⟨w0.heap.size, 3, none⟩ (.string V)) b s E.1 (!E.2) ∧ KB (SB b) w0 (((((W6).setCell ⟨w0.heap.size, 0, none⟩ (.int .u8 (1))).setCell ⟨w0.heap.size, 1, none⟩ (.int .i64 (i))).setCell ⟨w0.heap.size, 2, none⟩ (.int .i64 (0))).setCell ⟨w0.heap.size, 3, none⟩ (.string V))) := Lib.hid ⟨setCell_blk (i := 3) (setCell_blk (i := 2) (setCell_blk (i := 1) (setCell_blk (i := 0) (H5.out.2.1) (.int .u8 (1))) (.int .i64 (i))) (.int .i64 (0))) (.string V), (kb_set4 (W6) w0.heap.size (.int .u8 (1)) (.int .i64 (i)) (.int .i64 (0)) (.string V)).heap (fun e => by omega) H5.out.2.2.1,
          (((H5.out.2.2.2.setCell (p := ⟨w0.heap.size, 0, none⟩) (fun hh => absurd hh (Nat.lt_irrefl _)) (.int .u8 (1))).setCell (p := ⟨w0.heap.size, 1, none⟩) (fun hh => absurd hh (Nat.lt_irrefl _)) (.int .i64 (i))).setCell (p := ⟨w0.heap.size, 2, none⟩) (fun hh => absurd hh (Nat.lt_irrefl _)) (.int .i64 (0))).setCell (p := ⟨w0.heap.size, 3, none⟩) (fun hh => absurd hh (Nat.lt_irrefl _)) (.string V)⟩
        clear hT3 hT4 hT5 hk35 hR5 hx5 kb5 H5 kk hT6
        subst hW6
        subst hW5
        go_wp2
        (try simp only [Exit.inBlock, Exit.then])
        refine ret_tok (t := ⟨1, i, 0, V⟩) rfl rfl HZ.out.1 rfl ?_
        exact ⟨_, rfl, fun hok => by (have he : E.2 = true := (by rw [← HE.out.2.1]; exact hok)); rw [HE.out.2.2 he, ← HQ.out he]; rfl, by rw [HE.out.1, HE.out.2.1]; exact HZ.out.2.1, HZ.out.2.2⟩
      case false =>
        have hT3 := H2.out.2.1.kb k3 hTb
        have t0 : W3.cell? ⟨w0.heap.size + 1, 0, none⟩ = some (.int .u8 0) := blk_cell hT3 0
        have tf0 : W3.frozen? ⟨w0.heap.size + 1, 0, none⟩ = false := blk_frozen hT3 0
        have hT4 := setCell_blk (i := 0) hT3 (.int .u8 3)
        have t3 : (W3.setCell ⟨w0.heap.size + 1, 0, none⟩ (.int .u8 3)).cell? ⟨w0.heap.size + 1, 3, none⟩ = some (.string ⟨#[]⟩) := blk_cell hT4 3
        have tf3 : (W3.setCell ⟨w0.heap.size + 1, 0, none⟩ (.int .u8 3)).frozen? ⟨w0.heap.size + 1, 3, none⟩ = false := blk_frozen hT4 3
        obtain ⟨W5, hW5⟩ : ∃ W5, W5 = (W3.setCell ⟨w0.heap.size + 1, 0, none⟩ (.int .u8 3)).setCell ⟨w0.heap.size + 1, 3, none⟩ (.string V) := ⟨_, rfl⟩
        have hT5 : TK W5 (w0.heap.size + 1) ⟨3, i, 0, V⟩ := by rw [hW5]; exact setCell_blk (i := 3) hT4 (.string V)
        have hk35 : KB (fun k => k = w0.heap.size + 1) W3 W5 := by rw [hW5]; exact (kb_set W3 (w0.heap.size + 1) 0 _).trans (kb_set _ (w0.heap.size + 1) 3 _)
        have hR5 := (H2.out.1.kb k3 hRb).kb hk35 (fun e => by omega)
        have hx5 : LX W5 b s E.1 (!E.2) := hk35.heap (fun e => by omega) hx3
        have kb5 : KB (SB b) w0 W5 := by rw [hW5]; exact ((H2.out.2.2.2.trans k3).setCell (p := ⟨w0.heap.size + 1, 0, none⟩) (fun hh => by have h1 : w0.heap.size + 1 < w0.heap.size := hh; omega) _).setCell (p := ⟨w0.heap.size + 1, 3, none⟩) (fun hh => by have h1 : w0.heap.size + 1 < w0.heap.size := hh; omega) _
        have y3' : W5.cell? ⟨w0.heap.size + 1, 3, none⟩ = some (.string V) := blk_cell hT5 3
        have H5 := Lib.hid (And.intro hT5 (And.intro hR5 (And.intro hx5 kb5)))
        have y0 : W5.cell? ⟨w0.heap.size + 1, 0, none⟩ = some (.int .u8 (3)) := blk_cell H5.out.1 0
        have y1 : W5.cell? ⟨w0.heap.size + 1, 1, none⟩ = some (.int .i64 (i)) := blk_cell H5.out.1 1
        have y2 : W5.cell? ⟨w0.heap.size + 1, 2, none⟩ = some (.int .i64 (0)) := blk_cell H5.out.1 2
        have y3 : W5.cell? ⟨w0.heap.size + 1, 3, none⟩ = some (.string V) := blk_cell H5.out.1 3
        have r0 : (W5).cell? ⟨w0.heap.size, 0, none⟩ = some (.int .u8 0) := blk_cell (H5.out.2.1) 0
        have rf0 : (W5).frozen? ⟨w0.heap.size, 0, none⟩ = false := blk_frozen (H5.out.2.1) 0
        have r1 : ((W5).setCell ⟨w0.heap.size, 0, none⟩ (.int .u8 (3))).cell? ⟨w0.heap.size, 1, none⟩ = some (.int .i64 0) := blk_cell (setCell_blk (i := 0) (H5.out.2.1) (.int .u8 (3))) 1
        have rf1 : ((W5).setCell ⟨w0.heap.size, 0, none⟩ (.int .u8 (3))).frozen? ⟨w0.heap.size, 1, none⟩ = false := blk_frozen (setCell_blk (i := 0) (H5.out.2.1) (.int .u8 (3))) 1
        have r2 : (((W5).setCell ⟨w0.heap.size, 0, none⟩ (.int .u8 (3))).setCell ⟨w0.heap.size, 1, none⟩ (.int .i64 (i))).cell? ⟨w0.heap.size, 2, none⟩ = some (.int .i64 0) := blk_cell (setCell_blk (i := 1) (setCell_blk (i := 0) (H5.out.2.1) (.int .u8 (3))) (.int .i64 (i))) 2
        have rf2 : (((W5).setCell ⟨w0.heap.size, 0, none⟩ (.int .u8 (3))).setCell ⟨w0.heap.size, 1, none⟩ (.int .i64 (i))).frozen? ⟨w0.heap.size, 2, none⟩ = false := blk_frozen (setCell_blk (i := 1) (setCell_blk (i := 0) (H5.out.2.1) (.int .u8 (3))) (.int .i64 (i))) 2
        have r3 : ((((W5).setCell ⟨w0.heap.size, 0, none⟩ (.int .u8 (3))).setCell ⟨w0.heap.size, 1, none⟩ (.int .i64 (i))).setCell ⟨w0.heap.size, 2, none⟩ (.int .i64 (0))).cell? ⟨w0.heap.size, 3, none⟩ = some (.string ⟨#[]⟩) := blk_cell (setCell_blk (i := 2) (setCell_blk (i := 1) (setCell_blk (i := 0) (H5.out.2.1) (.int .u8 (3))) (.int .i64 (i))) (.int .i64 (0))) 3
        have rf3 : ((((W5).setCell ⟨w0.heap.size, 0, none⟩ (.int .u8 (3))).setCell ⟨w0.heap.size, 1, none⟩ (.int .i64 (i))).setCell ⟨w0.heap.size, 2, none⟩ (.int .i64 (0))).frozen? ⟨w0.heap.size, 3, none⟩ = false := blk_frozen (setCell_blk (i := 2) (setCell_blk (i := 1) (setCell_blk (i := 0) (H5.out.2.1) (.int .u8 (3))) (.int .i64 (i))) (.int .i64 (0))) 3
        have HZ : Hid (TK (((((W5).setCell ⟨w0.heap.size, 0, none⟩ (.int .u8 (3))).setCell ⟨w0.heap.size, 1, none⟩ (.int .i64 (i))).setCell ⟨w0.heap.size, 2, none⟩ (.int .i64 (0))).setCell ⟨w0.heap.size, 3, none⟩ (.string V)) w0.heap.size ⟨3, i, 0, V⟩ ∧ LX (((((W5).setCell ⟨w0.heap.size, 0, none⟩ (.int .u8 (3))).setCell ⟨w0.heap.size, 1, none⟩ (.int .i64 (i))).setCell ⟨w0.heap.size, 2, none⟩ (.int .i64 (0))).setCell ⟨w0.heap.size, 3, none⟩ (.string V)) b s E.1 (!E.2) ∧ KB (SB b) w0 (((((W5).setCell ⟨w0.heap.size, 0, none⟩ (.int .u8 (3))).setCell ⟨w0.heap.size, 1, none⟩ (.int .i64 (i))).setCell ⟨w0.heap.size, 2, none⟩ (.int .i64 (0))).setCell ⟨w0.heap.size, 3, none⟩ (.string V))) := Lib.hid ⟨setCell_blk (i := 3) (setCell_blk (i := 2) (setCell_blk (i := 1) (setCell_blk (i := 0) (H5.out.2.1) (.int .u8 (3))) (.int .i64 (i))) (.int .i64 (0))) (.string V), (kb_set4 (W5) w0.heap.size (.int .u8 (3)) (.int .i64 (i)) (.int .i64 (0)) (.string V)).heap (fun e => by omega) H5.out.2.2.1,
          (((H5.out.2.2.2.setCell (p := ⟨w0.heap.size, 0, none⟩) (fun hh => absurd hh (Nat.lt_irrefl _)) (.int .u8 (3))).setCell (p := ⟨w0.heap.size, 1, none⟩) (fun hh => absurd hh (Nat.lt_irrefl _)) (.int .i64 (i))).setCell (p := ⟨w0.heap.size, 2, none⟩) (fun hh => absurd hh (Nat.lt_irrefl _)) (.int .i64 (0))).setCell (p := ⟨w0.heap.size, 3, none⟩) (fun hh => absurd hh (Nat.lt_irrefl _)) (.string V)⟩
        clear hT3 hT4 hT5 hk35 hR5 hx5 kb5 H5
        subst hW5
        go_wp2
        (try simp only [Exit.inBlock, Exit.then])
        refine ret_tok (t := ⟨3, i, 0, V⟩) rfl rfl HZ.out.1 rfl ?_
        exact ⟨_, rfl, fun hok => by (have he : E.2 = true := (by rw [← HE.out.2.1]; exact hok)); rw [HE.out.2.2 he, ← HQ.out he]; rfl, by rw [HE.out.1, HE.out.2.1]; exact HZ.out.2.1, HZ.out.2.2⟩
    case false =>
      go_wp2_with fail
      refine DG.out.mono ?_
      rintro e w' ⟨rfl, rfl⟩
      cases dg
      case true =>
        have NM := Lib.hid (number_any b s i hile hs W2 H2.out.2.2.1)
        obtain ⟨E, hE⟩ : ∃ E, E = numE s i := ⟨_, rfl⟩
        rw [← hE] at NM
        have HO1 : Hid (O = if E.2.2 = true then (⟨5, i, E.2.1, ByteArray.empty⟩, E.1, true) else (tk0, E.1, false)) := Lib.hid (by
          rw [HO.out, oneS]
          simp only
          rw [← HC.out, ← HB.out.1, ← HB.out.2.1, ← HB.out.2.2, ← hE]
          rfl)
        clear hE
        go_wp2_with fail
        refine NM.out.mono ?_
        rintro e W3 ⟨rfl, hx3, k3⟩
        have HE : Hid (O.2.1 = E.1 ∧ O.2.2 = E.2.2 ∧ (E.2.2 = true → O.1 = ⟨5, i, E.2.1, ByteArray.empty⟩)) := Lib.hid (by
          rw [HO1.out]
          by_cases h : E.2.2 = true
          · rw [if_pos h]; exact ⟨rfl, h.symm, fun _ => rfl⟩
          · rw [if_neg h]; exact ⟨rfl, by simpa using h, fun h' => absurd h' h⟩)
        have hT3 := H2.out.2.1.kb k3 hTb
        have t0 : W3.cell? ⟨w0.heap.size + 1, 0, none⟩ = some (.int .u8 0) := blk_cell hT3 0
        have tf0 : W3.frozen? ⟨w0.heap.size + 1, 0, none⟩ = false := blk_frozen hT3 0
        have hT4 := setCell_blk (i := 0) hT3 (.int .u8 5)
        have t3 : (W3.setCell ⟨w0.heap.size + 1, 0, none⟩ (.int .u8 5)).cell? ⟨w0.heap.size + 1, 2, none⟩ = some (.int .i64 0) := blk_cell hT4 2
        have tf3 : (W3.setCell ⟨w0.heap.size + 1, 0, none⟩ (.int .u8 5)).frozen? ⟨w0.heap.size + 1, 2, none⟩ = false := blk_frozen hT4 2
        obtain ⟨W5, hW5⟩ : ∃ W5, W5 = (W3.setCell ⟨w0.heap.size + 1, 0, none⟩ (.int .u8 5)).setCell ⟨w0.heap.size + 1, 2, none⟩ (.int .i64 (E.2.1 : Nat)) := ⟨_, rfl⟩
        have hT5 : TK W5 (w0.heap.size + 1) ⟨5, i, E.2.1, ⟨#[]⟩⟩ := by rw [hW5]; exact setCell_blk (i := 2) hT4 (.int .i64 (E.2.1 : Nat))
        have hk35 : KB (fun k => k = w0.heap.size + 1) W3 W5 := by rw [hW5]; exact (kb_set W3 (w0.heap.size + 1) 0 _).trans (kb_set _ (w0.heap.size + 1) 2 _)
        have hR5 := (H2.out.1.kb k3 hRb).kb hk35 (fun e => by omega)
        have hx5 : LX W5 b s E.1 (!E.2.2) := hk35.heap (fun e => by omega) hx3
        have kb5 : KB (SB b) w0 W5 := by rw [hW5]; exact ((H2.out.2.2.2.trans k3).setCell (p := ⟨w0.heap.size + 1, 0, none⟩) (fun hh => by have h1 : w0.heap.size + 1 < w0.heap.size := hh; omega) _).setCell (p := ⟨w0.heap.size + 1, 2, none⟩) (fun hh => by have h1 : w0.heap.size + 1 < w0.heap.size := hh; omega) _
        have y3' : W5.cell? ⟨w0.heap.size + 1, 3, none⟩ = some (.string ⟨#[]⟩) := blk_cell hT5 3
        have H5 := Lib.hid (And.intro hT5 (And.intro hR5 (And.intro hx5 kb5)))
        have y0 : W5.cell? ⟨w0.heap.size + 1, 0, none⟩ = some (.int .u8 (5)) := blk_cell H5.out.1 0
        have y1 : W5.cell? ⟨w0.heap.size + 1, 1, none⟩ = some (.int .i64 (i)) := blk_cell H5.out.1 1
        have y2 : W5.cell? ⟨w0.heap.size + 1, 2, none⟩ = some (.int .i64 (E.2.1)) := blk_cell H5.out.1 2
        have y3 : W5.cell? ⟨w0.heap.size + 1, 3, none⟩ = some (.string ⟨#[]⟩) := blk_cell H5.out.1 3
        have r0 : (W5).cell? ⟨w0.heap.size, 0, none⟩ = some (.int .u8 0) := blk_cell (H5.out.2.1) 0
        have rf0 : (W5).frozen? ⟨w0.heap.size, 0, none⟩ = false := blk_frozen (H5.out.2.1) 0
        have r1 : ((W5).setCell ⟨w0.heap.size, 0, none⟩ (.int .u8 (5))).cell? ⟨w0.heap.size, 1, none⟩ = some (.int .i64 0) := blk_cell (setCell_blk (i := 0) (H5.out.2.1) (.int .u8 (5))) 1
        have rf1 : ((W5).setCell ⟨w0.heap.size, 0, none⟩ (.int .u8 (5))).frozen? ⟨w0.heap.size, 1, none⟩ = false := blk_frozen (setCell_blk (i := 0) (H5.out.2.1) (.int .u8 (5))) 1
        have r2 : (((W5).setCell ⟨w0.heap.size, 0, none⟩ (.int .u8 (5))).setCell ⟨w0.heap.size, 1, none⟩ (.int .i64 (i))).cell? ⟨w0.heap.size, 2, none⟩ = some (.int .i64 0) := blk_cell (setCell_blk (i := 1) (setCell_blk (i := 0) (H5.out.2.1) (.int .u8 (5))) (.int .i64 (i))) 2
        have rf2 : (((W5).setCell ⟨w0.heap.size, 0, none⟩ (.int .u8 (5))).setCell ⟨w0.heap.size, 1, none⟩ (.int .i64 (i))).frozen? ⟨w0.heap.size, 2, none⟩ = false := blk_frozen (setCell_blk (i := 1) (setCell_blk (i := 0) (H5.out.2.1) (.int .u8 (5))) (.int .i64 (i))) 2
        have r3 : ((((W5).setCell ⟨w0.heap.size, 0, none⟩ (.int .u8 (5))).setCell ⟨w0.heap.size, 1, none⟩ (.int .i64 (i))).setCell ⟨w0.heap.size, 2, none⟩ (.int .i64 (E.2.1))).cell? ⟨w0.heap.size, 3, none⟩ = some (.string ⟨#[]⟩) := blk_cell (setCell_blk (i := 2) (setCell_blk (i := 1) (setCell_blk (i := 0) (H5.out.2.1) (.int .u8 (5))) (.int .i64 (i))) (.int .i64 (E.2.1))) 3
        have rf3 : ((((W5).setCell ⟨w0.heap.size, 0, none⟩ (.int .u8 (5))).setCell ⟨w0.heap.size, 1, none⟩ (.int .i64 (i))).setCell ⟨w0.heap.size, 2, none⟩ (.int .i64 (E.2.1))).frozen? ⟨w0.heap.size, 3, none⟩ = false := blk_frozen (setCell_blk (i := 2) (setCell_blk (i := 1) (setCell_blk (i := 0) (H5.out.2.1) (.int .u8 (5))) (.int .i64 (i))) (.int .i64 (E.2.1))) 3
        have HZ : Hid (TK (((((W5).setCell ⟨w0.heap.size, 0, none⟩ (.int .u8 (5))).setCell ⟨w0.heap.size, 1, none⟩ (.int .i64 (i))).setCell ⟨w0.heap.size, 2, none⟩ (.int .i64 (E.2.1))).setCell ⟨w0.heap.size, 3, none⟩ (.string ⟨#[]⟩)) w0.heap.size ⟨5, i, E.2.1, ⟨#[]⟩⟩ ∧ LX (((((W5).setCell ⟨w0.heap.size, 0, none⟩ (.int .u8 (5))).setCell ⟨w0.heap.size, 1, none⟩ (.int .i64 (i))).setCell ⟨w0.heap.size, 2, none⟩ (.int .i64 (E.2.1))).setCell ⟨w0.heap.size, 3, none⟩ (.string ⟨#[]⟩)) b s E.1 (!E.2.2) ∧ KB (SB b) w0 (((((W5).setCell ⟨w0.heap.size, 0, none⟩ (.int .u8 (5))).setCell ⟨w0.heap.size, 1, none⟩ (.int .i64 (i))).setCell ⟨w0.heap.size, 2, none⟩ (.int .i64 (E.2.1))).setCell ⟨w0.heap.size, 3, none⟩ (.string ⟨#[]⟩))) := Lib.hid ⟨setCell_blk (i := 3) (setCell_blk (i := 2) (setCell_blk (i := 1) (setCell_blk (i := 0) (H5.out.2.1) (.int .u8 (5))) (.int .i64 (i))) (.int .i64 (E.2.1))) (.string ⟨#[]⟩), (kb_set4 (W5) w0.heap.size (.int .u8 (5)) (.int .i64 (i)) (.int .i64 (E.2.1)) (.string ⟨#[]⟩)).heap (fun e => by omega) H5.out.2.2.1,
          (((H5.out.2.2.2.setCell (p := ⟨w0.heap.size, 0, none⟩) (fun hh => absurd hh (Nat.lt_irrefl _)) (.int .u8 (5))).setCell (p := ⟨w0.heap.size, 1, none⟩) (fun hh => absurd hh (Nat.lt_irrefl _)) (.int .i64 (i))).setCell (p := ⟨w0.heap.size, 2, none⟩) (fun hh => absurd hh (Nat.lt_irrefl _)) (.int .i64 (E.2.1))).setCell (p := ⟨w0.heap.size, 3, none⟩) (fun hh => absurd hh (Nat.lt_irrefl _)) (.string ⟨#[]⟩)⟩
        clear hT3 hT4 hT5 hk35 hR5 hx5 kb5 H5
        subst hW5
        go_wp2
        (try simp only [Exit.inBlock, Exit.then])
        refine ret_tok (t := ⟨5, i, E.2.1, ⟨#[]⟩⟩) rfl rfl HZ.out.1 rfl ?_
        exact ⟨_, rfl, fun hok => by rw [HE.out.2.2 (by rw [← HE.out.2.1]; exact hok)]; rfl, by rw [HE.out.1, HE.out.2.1]; exact HZ.out.2.1, HZ.out.2.2⟩
      case false =>
        by_cases h39 : c = 39
        · have t39 : ((c : Int) == 39) = true := by simp; omega
          have hx2 := H2.out.2.2.1
          have x1 : W2.cell? ⟨b, 1, none⟩ = some (.int .i64 i) := blk_cell hx2 1
          have xf1 : W2.frozen? ⟨b, 1, none⟩ = false := blk_frozen hx2 1
          have hx3 := hx2.go (i + 1)
          have kb3 := H2.out.2.2.2.setCell (p := ⟨b, 1, none⟩) (fun _ => rfl) (.int .i64 ((i + 1 : Nat) : Int))
          have kx : KB (SB b) W2 (W2.setCell ⟨b, 1, none⟩ (.int .i64 ((i + 1 : Nat) : Int))) := kb_set W2 b 1 _
          have hT3 := H2.out.2.1.kb kx hTb
          have hR3 := H2.out.1.kb kx hRb
          push_cast at hx3 kb3 kx hT3 hR3
          have t0 : (W2.setCell ⟨b, 1, none⟩ (.int .i64 ((i : Int) + 1))).cell? ⟨w0.heap.size + 1, 0, none⟩ = some (.int .u8 0) := blk_cell hT3 0
          have tf0 : (W2.setCell ⟨b, 1, none⟩ (.int .i64 ((i : Int) + 1))).frozen? ⟨w0.heap.size + 1, 0, none⟩ = false := blk_frozen hT3 0
          obtain ⟨W4, hW4⟩ : ∃ W4, W4 = (W2.setCell ⟨b, 1, none⟩ (.int .i64 ((i : Int) + 1))).setCell ⟨w0.heap.size + 1, 0, none⟩ (.int .u8 4) := ⟨_, rfl⟩
          have kt : KB (fun k => k = w0.heap.size + 1) (W2.setCell ⟨b, 1, none⟩ (.int .i64 ((i : Int) + 1))) W4 := by rw [hW4]; exact kb_set _ (w0.heap.size + 1) 0 _
          have hT4 : TK W4 (w0.heap.size + 1) ⟨4, i, 0, ⟨#[]⟩⟩ := by rw [hW4]; exact setCell_blk (i := 0) hT3 (.int .u8 4)
          have H4 := Lib.hid (And.intro hT4 (And.intro (hR3.kb kt (fun e => by omega)) (And.intro (show LX W4 b s (i + 1) false from kt.heap (fun e => by omega) hx3) (show KB (SB b) w0 W4 by rw [hW4]; exact kb3.setCell (p := ⟨w0.heap.size + 1, 0, none⟩) (fun hh => by have h1 : w0.heap.size + 1 < w0.heap.size := hh; omega) _))))
          have HW4 := Lib.hid hW4
          have IS := Lib.hid (is_lxSmall b s (i + 1) false (by omega) W4 H4.out.2.2.1)
          obtain ⟨p, hp⟩ : ∃ p, p = isB smallB s (i + 1) := ⟨_, rfl⟩
          rw [← hp] at IS
          have HP := Lib.hid hp
          have HN : Hid ((smallB c || greatB c) = false ∧ digitB c = false ∧ c = 39) := Lib.hid ⟨by rw [← HB.out.1, ← HB.out.2.1]; rfl, HB.out.2.2.symm, h39⟩
          clear hx2 hx3 kb3 kx hT3 hR3 kt hT4 hW4 hp h39
          go_wp2_with fail
          rw [← HW4.out]
          refine IS.out.mono ?_
          rintro e w' ⟨rfl, m, rfl⟩
          clear x1 xf1 t0 tf0
          have H5 := Lib.hid (And.intro (H4.out.1.kb (KB.refl F0 W4 |>.drewN m) (fun x => x)) (And.intro (H4.out.2.1.kb (KB.refl F0 W4 |>.drewN m) (fun x => x)) (And.intro (H4.out.2.2.1.drewN m) (H4.out.2.2.2.drewN m))))
          obtain ⟨W5, hW5⟩ : ∃ W5, W5 = W4.drewN m := ⟨_, rfl⟩
          rw [← hW5] at H5 ⊢
          clear hW5
          cases p
          case false =>
            have HO1 : Hid (O = (tk0, i + 1, false)) := Lib.hid (by
              have hq := HP.out
              unfold isB at hq
              rw [HO.out, oneS]
              simp only
              rw [← HC.out, HN.out.1, HN.out.2.1, if_neg (by decide), if_neg (by decide), if_pos HN.out.2.2, if_neg]
              rintro ⟨h1, h2⟩
              rw [decide_eq_true h1, h2] at hq
              cases hq)
            have x2 : W5.cell? ⟨b, 2, none⟩ = some (.bool false) := blk_cell H5.out.2.2.1 2
            have xf2 : W5.frozen? ⟨b, 2, none⟩ = false := blk_frozen H5.out.2.2.1 2
            obtain ⟨W6, hW6⟩ : ∃ W6, W6 = W5.setCell ⟨b, 2, none⟩ (.bool true) := ⟨_, rfl⟩
            have kx : KB (SB b) W5 W6 := by rw [hW6]; exact kb_set W5 b 2 _
            have H6 := Lib.hid (And.intro (H5.out.1.kb kx hTb) (And.intro (H5.out.2.1.kb kx hRb) (And.intro (show LX W6 b s (i + 1) true by rw [hW6]; exact H5.out.2.2.1.stuck true) (H5.out.2.2.2.trans kx))))
            clear kx
            have y0 : W6.cell? ⟨w0.heap.size + 1, 0, none⟩ = some (.int .u8 (4)) := blk_cell H6.out.1 0
            have y1 : W6.cell? ⟨w0.heap.size + 1, 1, none⟩ = some (.int .i64 (i)) := blk_cell H6.out.1 1
            have y2 : W6.cell? ⟨w0.heap.size + 1, 2, none⟩ = some (.int .i64 (0)) := blk_cell H6.out.1 2
            have y3 : W6.cell? ⟨w0.heap.size + 1, 3, none⟩ = some (.string ⟨#[]⟩) := blk_cell H6.out.1 3
            have r0 : (W6).cell? ⟨w0.heap.size, 0, none⟩ = some (.int .u8 0) := blk_cell (H6.out.2.1) 0
            have rf0 : (W6).frozen? ⟨w0.heap.size, 0, none⟩ = false := blk_frozen (H6.out.2.1) 0
            have r1 : ((W6).setCell ⟨w0.heap.size, 0, none⟩ (.int .u8 (4))).cell? ⟨w0.heap.size, 1, none⟩ = some (.int .i64 0) := blk_cell (setCell_blk (i := 0) (H6.out.2.1) (.int .u8 (4))) 1
            have rf1 : ((W6).setCell ⟨w0.heap.size, 0, none⟩ (.int .u8 (4))).frozen? ⟨w0.heap.size, 1, none⟩ = false := blk_frozen (setCell_blk (i := 0) (H6.out.2.1) (.int .u8 (4))) 1
            have r2 : (((W6).setCell ⟨w0.heap.size, 0, none⟩ (.int .u8 (4))).setCell ⟨w0.heap.size, 1, none⟩ (.int .i64 (i))).cell? ⟨w0.heap.size, 2, none⟩ = some (.int .i64 0) := blk_cell (setCell_blk (i := 1) (setCell_blk (i := 0) (H6.out.2.1) (.int .u8 (4))) (.int .i64 (i))) 2
            have rf2 : (((W6).setCell ⟨w0.heap.size, 0, none⟩ (.int .u8 (4))).setCell ⟨w0.heap.size, 1, none⟩ (.int .i64 (i))).frozen? ⟨w0.heap.size, 2, none⟩ = false := blk_frozen (setCell_blk (i := 1) (setCell_blk (i := 0) (H6.out.2.1) (.int .u8 (4))) (.int .i64 (i))) 2
            have r3 : ((((W6).setCell ⟨w0.heap.size, 0, none⟩ (.int .u8 (4))).setCell ⟨w0.heap.size, 1, none⟩ (.int .i64 (i))).setCell ⟨w0.heap.size, 2, none⟩ (.int .i64 (0))).cell? ⟨w0.heap.size, 3, none⟩ = some (.string ⟨#[]⟩) := blk_cell (setCell_blk (i := 2) (setCell_blk (i := 1) (setCell_blk (i := 0) (H6.out.2.1) (.int .u8 (4))) (.int .i64 (i))) (.int .i64 (0))) 3
            have rf3 : ((((W6).setCell ⟨w0.heap.size, 0, none⟩ (.int .u8 (4))).setCell ⟨w0.heap.size, 1, none⟩ (.int .i64 (i))).setCell ⟨w0.heap.size, 2, none⟩ (.int .i64 (0))).frozen? ⟨w0.heap.size, 3, none⟩ = false := blk_frozen (setCell_blk (i := 2) (setCell_blk (i := 1) (setCell_blk (i := 0) (H6.out.2.1) (.int .u8 (4))) (.int .i64 (i))) (.int .i64 (0))) 3
            have HZ : Hid (TK (((((W6).setCell ⟨w0.heap.size, 0, none⟩ (.int .u8 (4))).setCell ⟨w0.heap.size, 1, none⟩ (.int .i64 (i))).setCell ⟨w0.heap.size, 2, none⟩ (.int .i64 (0))).setCell ⟨w0.heap.size, 3, none⟩ (.string ⟨#[]⟩)) w0.heap.size ⟨4, i, 0, ⟨#[]⟩⟩ ∧ LX (((((W6).setCell ⟨w0.heap.size, 0, none⟩ (.int .u8 (4))).setCell ⟨w0.heap.size, 1, none⟩ (.int .i64 (i))).setCell ⟨w0.heap.size, 2, none⟩ (.int .i64 (0))).setCell ⟨w0.heap.size, 3, none⟩ (.string ⟨#[]⟩)) b s (i + 1) (true) ∧ KB (SB b) w0 (((((W6).setCell ⟨w0.heap.size, 0, none⟩ (.int .u8 (4))).setCell ⟨w0.heap.size, 1, none⟩ (.int .i64 (i))).setCell ⟨w0.heap.size, 2, none⟩ (.int .i64 (0))).setCell ⟨w0.heap.size, 3, none⟩ (.string ⟨#[]⟩))) := Lib.hid ⟨setCell_blk (i := 3) (setCell_blk (i := 2) (setCell_blk (i := 1) (setCell_blk (i := 0) (H6.out.2.1) (.int .u8 (4))) (.int .i64 (i))) (.int .i64 (0))) (.string ⟨#[]⟩), (kb_set4 (W6) w0.heap.size (.int .u8 (4)) (.int .i64 (i)) (.int .i64 (0)) (.string ⟨#[]⟩)).heap (fun e => by omega) H6.out.2.2.1,
              (((H6.out.2.2.2.setCell (p := ⟨w0.heap.size, 0, none⟩) (fun hh => absurd hh (Nat.lt_irrefl _)) (.int .u8 (4))).setCell (p := ⟨w0.heap.size, 1, none⟩) (fun hh => absurd hh (Nat.lt_irrefl _)) (.int .i64 (i))).setCell (p := ⟨w0.heap.size, 2, none⟩) (fun hh => absurd hh (Nat.lt_irrefl _)) (.int .i64 (0))).setCell (p := ⟨w0.heap.size, 3, none⟩) (fun hh => absurd hh (Nat.lt_irrefl _)) (.string ⟨#[]⟩)⟩
            clear H6
            subst hW6
            go_wp2
            (try simp only [Exit.inBlock, Exit.then])
            refine ret_tok (t := ⟨4, i, 0, ⟨#[]⟩⟩) rfl rfl HZ.out.1 rfl ?_
            exact ⟨_, rfl, fun hok => (by rw [HO1.out] at hok; cases hok), by rw [HO1.out]; exact HZ.out.2.1, HZ.out.2.2⟩
          case true =>
            have hsm2 : i + 1 < s.size ∧ smallB (byteAt s (i + 1)) = true := by
              have hq := HP.out
              unfold isB at hq
              have := hq.symm
              simp only [Bool.and_eq_true, decide_eq_true_eq] at this
              exact this
            have NM := Lib.hid (name_any b s (i + 1) false (by omega) hs W5 H5.out.2.2.1)
            obtain ⟨E, hE⟩ : ∃ E, E = nameE s (i + 1) false := ⟨_, rfl⟩
            rw [← hE] at NM
            have HO1 : Hid (O = if (E.2 && !wordB (s.extract (i + 1) E.1)) = true then (⟨4, i, 0, s.extract (i + 1) E.1⟩, E.1, true) else (tk0, E.1, false)) := Lib.hid (by
              rw [HO.out, oneS]
              simp only
              rw [← HC.out, HN.out.1, HN.out.2.1, if_neg (by decide), if_neg (by decide), if_pos HN.out.2.2, if_pos hsm2, ← hE])
            clear hE hsm2
            go_wp2_with fail
            refine NM.out.mono ?_
            rintro e W6 ⟨rfl, hx6, k6⟩
            obtain ⟨V, hV⟩ : ∃ V, V = (if E.2 = true then s.extract (i + 1) E.1 else (⟨#[]⟩ : ByteArray)) := ⟨_, rfl⟩
            rw [← hV]
            have HV := Lib.hid hV
            clear hV
            have hT6 := H5.out.1.kb k6 hTb
            have t3 : W6.cell? ⟨w0.heap.size + 1, 3, none⟩ = some (.string ⟨#[]⟩) := blk_cell hT6 3
            have tf3 : W6.frozen? ⟨w0.heap.size + 1, 3, none⟩ = false := blk_frozen hT6 3
            obtain ⟨W7, hW7⟩ : ∃ W7, W7 = W6.setCell ⟨w0.heap.size + 1, 3, none⟩ (.string V) := ⟨_, rfl⟩
            have kt : KB (fun k => k = w0.heap.size + 1) W6 W7 := by rw [hW7]; exact kb_set _ (w0.heap.size + 1) 3 _
            have hT7 : TK W7 (w0.heap.size + 1) ⟨4, i, 0, V⟩ := by rw [hW7]; exact setCell_blk (i := 3) hT6 (.string V)
            have H7 := Lib.hid (And.intro hT7 (And.intro ((H5.out.2.1.kb k6 hRb).kb kt (fun e => by omega)) (And.intro (show LX W7 b s E.1 (!E.2) from kt.heap (fun e => by omega) hx6) (show KB (SB b) w0 W7 by rw [hW7]; exact (H5.out.2.2.2.trans k6).setCell (p := ⟨w0.heap.size + 1, 3, none⟩) (fun hh => by have h1 : w0.heap.size + 1 < w0.heap.size := hh; omega) _))))
            have HW7 := Lib.hid hW7
            have x2 : W7.cell? ⟨b, 2, none⟩ = some (.bool (!E.2)) := blk_cell H7.out.2.2.1 2
            have q3 : W7.cell? ⟨w0.heap.size + 1, 3, none⟩ = some (.string V) := blk_cell H7.out.1 3
            have WD := Lib.hid (fun (W : World) (hk : KB F0 W7 W) => words_any W (TB.out W (H7.out.2.2.2.trans (hk.mono (fun _ _ x => x.elim)))))
            obtain ⟨E1, E2⟩ := E
            clear hT6 kt hT7 hW7 hx6 k6
            go_wp2_with fail
            rw [← HW7.out]
            clear t3 tf3
            cases E2
            case false =>
              have HE : Hid (O = (tk0, E1, false)) := Lib.hid (by rw [HO1.out]; rfl)
              have x2 : W7.cell? ⟨b, 2, none⟩ = some (.bool true) := x2
              refine wp_region_rv 11 GK (kindW []) (by kernel_rfl) (by kernel_rfl) (kb_trans _) (kb_refl _) (kb_start _ _) (kindW_mono _ (fun p hp => by cases hp)) ?_
              simp only [List.take_succ_cons, List.take_zero, List.drop_succ_cons, List.drop_zero]
              iterate 6 (refine rv_det (by kernel_rfl) rfl (by intro w hG hH; have hc0 := KB.cell hG (p := ⟨b, 2, none⟩) (fun x => x) x2; go_simp; first | done | with_reducible rfl) ?_; simp only [Act.put, List.setIfInBounds_toArray, List.set_cons_zero, List.set_cons_succ])
              iterate 4 (refine rv_skip (by kernel_rfl) ?_; simp only [Act.put, List.setIfInBounds_toArray, List.set_cons_zero, List.set_cons_succ])
              iterate 1 (refine rv_det (by kernel_rfl) rfl (by intro w hG hH; go_simp; first | done | with_reducible rfl) ?_; simp only [Act.put, List.setIfInBounds_toArray, List.set_cons_zero, List.set_cons_succ])
              refine rv_nil (fun W8 hk8 hH => ?_)
              clear hH x2 q3
              have H6 := Lib.hid (And.intro (H7.out.1.kb hk8 (fun x => x)) (And.intro (H7.out.2.1.kb hk8 (fun x => x)) (And.intro (H7.out.2.2.1.kb hk8) (H7.out.2.2.2.trans (hk8.mono (fun _ _ x => x.elim))))))
              clear hk8
              have y0 : W8.cell? ⟨w0.heap.size + 1, 0, none⟩ = some (.int .u8 (4)) := blk_cell H6.out.1 0
              have y1 : W8.cell? ⟨w0.heap.size + 1, 1, none⟩ = some (.int .i64 (i)) := blk_cell H6.out.1 1
              have y2 : W8.cell? ⟨w0.heap.size + 1, 2, none⟩ = some (.int .i64 (0)) := blk_cell H6.out.1 2
              have y3 : W8.cell? ⟨w0.heap.size + 1, 3, none⟩ = some (.string V) := blk_cell H6.out.1 3
              have r0 : (W8).cell? ⟨w0.heap.size, 0, none⟩ = some (.int .u8 0) := blk_cell (H6.out.2.1) 0
              have rf0 : (W8).frozen? ⟨w0.heap.size, 0, none⟩ = false := blk_frozen (H6.out.2.1) 0
              have r1 : ((W8).setCell ⟨w0.heap.size, 0, none⟩ (.int .u8 (4))).cell? ⟨w0.heap.size, 1, none⟩ = some (.int .i64 0) := blk_cell (setCell_blk (i := 0) (H6.out.2.1) (.int .u8 (4))) 1
              have rf1 : ((W8).setCell ⟨w0.heap.size, 0, none⟩ (.int .u8 (4))).frozen? ⟨w0.heap.size, 1, none⟩ = false := blk_frozen (setCell_blk (i := 0) (H6.out.2.1) (.int .u8 (4))) 1
              have r2 : (((W8).setCell ⟨w0.heap.size, 0, none⟩ (.int .u8 (4))).setCell ⟨w0.heap.size, 1, none⟩ (.int .i64 (i))).cell? ⟨w0.heap.size, 2, none⟩ = some (.int .i64 0) := blk_cell (setCell_blk (i := 1) (setCell_blk (i := 0) (H6.out.2.1) (.int .u8 (4))) (.int .i64 (i))) 2
              have rf2 : (((W8).setCell ⟨w0.heap.size, 0, none⟩ (.int .u8 (4))).setCell ⟨w0.heap.size, 1, none⟩ (.int .i64 (i))).frozen? ⟨w0.heap.size, 2, none⟩ = false := blk_frozen (setCell_blk (i := 1) (setCell_blk (i := 0) (H6.out.2.1) (.int .u8 (4))) (.int .i64 (i))) 2
              have r3 : ((((W8).setCell ⟨w0.heap.size, 0, none⟩ (.int .u8 (4))).setCell ⟨w0.heap.size, 1, none⟩ (.int .i64 (i))).setCell ⟨w0.heap.size, 2, none⟩ (.int .i64 (0))).cell? ⟨w0.heap.size, 3, none⟩ = some (.string ⟨#[]⟩) := blk_cell (setCell_blk (i := 2) (setCell_blk (i := 1) (setCell_blk (i := 0) (H6.out.2.1) (.int .u8 (4))) (.int .i64 (i))) (.int .i64 (0))) 3
              have rf3 : ((((W8).setCell ⟨w0.heap.size, 0, none⟩ (.int .u8 (4))).setCell ⟨w0.heap.size, 1, none⟩ (.int .i64 (i))).setCell ⟨w0.heap.size, 2, none⟩ (.int .i64 (0))).frozen? ⟨w0.heap.size, 3, none⟩ = false := blk_frozen (setCell_blk (i := 2) (setCell_blk (i := 1) (setCell_blk (i := 0) (H6.out.2.1) (.int .u8 (4))) (.int .i64 (i))) (.int .i64 (0))) 3
              have HZ : Hid (TK (((((W8).setCell ⟨w0.heap.size, 0, none⟩ (.int .u8 (4))).setCell ⟨w0.heap.size, 1, none⟩ (.int .i64 (i))).setCell ⟨w0.heap.size, 2, none⟩ (.int .i64 (0))).setCell ⟨w0.heap.size, 3, none⟩ (.string V)) w0.heap.size ⟨4, i, 0, V⟩ ∧ LX (((((W8).setCell ⟨w0.heap.size, 0, none⟩ (.int .u8 (4))).setCell ⟨w0.heap.size, 1, none⟩ (.int .i64 (i))).setCell ⟨w0.heap.size, 2, none⟩ (.int .i64 (0))).setCell ⟨w0.heap.size, 3, none⟩ (.string V)) b s E1 (true) ∧ KB (SB b) w0 (((((W8).setCell ⟨w0.heap.size, 0, none⟩ (.int .u8 (4))).setCell ⟨w0.heap.size, 1, none⟩ (.int .i64 (i))).setCell ⟨w0.heap.size, 2, none⟩ (.int .i64 (0))).setCell ⟨w0.heap.size, 3, none⟩ (.string V))) := Lib.hid ⟨setCell_blk (i := 3) (setCell_blk (i := 2) (setCell_blk (i := 1) (setCell_blk (i := 0) (H6.out.2.1) (.int .u8 (4))) (.int .i64 (i))) (.int .i64 (0))) (.string V), (kb_set4 (W8) w0.heap.size (.int .u8 (4)) (.int .i64 (i)) (.int .i64 (0)) (.string V)).heap (fun e => by omega) H6.out.2.2.1,
                (((H6.out.2.2.2.setCell (p := ⟨w0.heap.size, 0, none⟩) (fun hh => absurd hh (Nat.lt_irrefl _)) (.int .u8 (4))).setCell (p := ⟨w0.heap.size, 1, none⟩) (fun hh => absurd hh (Nat.lt_irrefl _)) (.int .i64 (i))).setCell (p := ⟨w0.heap.size, 2, none⟩) (fun hh => absurd hh (Nat.lt_irrefl _)) (.int .i64 (0))).setCell (p := ⟨w0.heap.size, 3, none⟩) (fun hh => absurd hh (Nat.lt_irrefl _)) (.string V)⟩
              clear H6
              go_wp2
              (try simp only [Exit.inBlock, Exit.then])
              refine ret_tok (t := ⟨4, i, 0, V⟩) rfl rfl HZ.out.1 rfl ?_
              exact ⟨_, rfl, fun hok => (by rw [HE.out] at hok; cases hok), by rw [HE.out]; exact HZ.out.2.1, HZ.out.2.2⟩
            case true =>
              obtain ⟨q, hq⟩ : ∃ q, q = wordB V := ⟨_, rfl⟩
              have HQ := Lib.hid hq
              have HE : Hid (O.2.1 = E1 ∧ O.2.2 = (!q) ∧ (q = false → O.1 = ⟨4, i, 0, V⟩)) := Lib.hid (by
                have e1 : V = s.extract (i + 1) E1 := by rw [HV.out]; rfl
                rw [HO1.out]
                show (if (true && !wordB (s.extract (i + 1) E1)) = true then ((⟨4, i, 0, s.extract (i + 1) E1⟩ : Tk), E1, true) else (tk0, E1, false)).2.1 = E1 ∧ _
                rw [← e1, ← hq]
                cases q
                · exact ⟨rfl, rfl, fun _ => rfl⟩
                · exact ⟨rfl, rfl, fun h => by cases h⟩)
              clear hq
              have x2 : W7.cell? ⟨b, 2, none⟩ = some (.bool false) := x2
              refine wp_region_rv 11 GK (kindW [(6, fun v => ∃ g, v = .slice (some ⟨g, 0, none⟩) 19 19, fun v w => ∃ g, v = .slice (some ⟨g, 0, none⟩) 19 19 ∧ SL w g wordL), (9, fun v => v = .bool q, fun _ _ => True)]) (by kernel_rfl) (by kernel_rfl) (kb_trans _) (kb_refl _) (kb_start _ _) (kindW_mono _ (by
                intro p hp; simp only [List.mem_cons, List.not_mem_nil, or_false] at hp
                rcases hp with rfl | rfl
                · exact fun v a b hG ⟨g, h1, h2⟩ => ⟨g, h1, h2.kb hG⟩
                · exact lasts_true)) ?_
              simp only [List.take_succ_cons, List.take_zero, List.drop_succ_cons, List.drop_zero]
              iterate 6 (refine rv_det (by kernel_rfl) rfl (by intro w hG hH; have hc0 := KB.cell hG (p := ⟨b, 2, none⟩) (fun x => x) x2; go_simp; first | done | with_reducible rfl) ?_; simp only [Act.put, List.setIfInBounds_toArray, List.set_cons_zero, List.set_cons_succ])
              refine rv_rel (by kernel_rfl) rfl ⟨_, 0, rfl⟩ (by
                intro w hG hH
                refine opVal_call (by go_simp; first | done | exact ⟨⟨rfl, rfl⟩, rfl⟩) ?_
                refine (WD.out w hG).mono ?_
                rintro e w' ⟨g, rfl, h1, h2⟩
                exact ⟨_, rfl, ⟨g, rfl⟩, h2, ⟨g, rfl, h1⟩⟩) ?_
              rintro v ⟨g, rfl⟩
              simp only [Act.put, List.setIfInBounds_toArray, List.set_cons_zero, List.set_cons_succ]
              iterate 2 (refine rv_det (by kernel_rfl) rfl (by intro w hG hH; have hc0 := KB.cell hG (p := ⟨w0.heap.size + 1, 3, none⟩) (fun x => x) q3; go_simp; first | done | with_reducible rfl) ?_; simp only [Act.put, List.setIfInBounds_toArray, List.set_cons_zero, List.set_cons_succ])
              refine rv_rel (by kernel_rfl) rfl ⟨_, rfl⟩ (by
                intro w hG hH
                obtain ⟨g', e1, hsl⟩ := hH _ (List.Mem.head _) (by kernel_rfl)
                simp only [Value.slice.injEq, Option.some.injEq, Addr.mk.injEq, and_true] at e1
                subst e1
                refine opVal_call (by go_simp; first | done | exact ⟨⟨rfl, rfl⟩, rfl⟩) ?_
                refine (contains_w g V w hsl).mono ?_
                rintro e w' ⟨rfl, hq⟩
                exact ⟨_, rfl, (show Value.bool (wordB V) = .bool q by rw [HQ.out]), by rw [hq]; exact KB.refl _ _, trivial⟩) ?_
              rintro v rfl
              simp only [Act.put, List.setIfInBounds_toArray, List.set_cons_zero, List.set_cons_succ]
              iterate 1 (refine rv_det (by kernel_rfl) rfl (by intro w hG hH; go_simp; first | done | with_reducible rfl) ?_; simp only [Act.put, List.setIfInBounds_toArray, List.set_cons_zero, List.set_cons_succ])
              refine rv_nil (fun W8 hk8 hH => ?_)
              clear hH x2 q3
              have H8 := Lib.hid (And.intro (H7.out.1.kb hk8 (fun x => x)) (And.intro (H7.out.2.1.kb hk8 (fun x => x)) (And.intro (show LX W8 b s E1 false from H7.out.2.2.1.kb hk8) (H7.out.2.2.2.trans (hk8.mono (fun _ _ x => x.elim))))))
              clear hk8
              cases q
              case true =>
                have x2 : W8.cell? ⟨b, 2, none⟩ = some (.bool false) := blk_cell H8.out.2.2.1 2
                have xf2 : W8.frozen? ⟨b, 2, none⟩ = false := blk_frozen H8.out.2.2.1 2
                obtain ⟨W9, hW6⟩ : ∃ W9, W9 = W8.setCell ⟨b, 2, none⟩ (.bool true) := ⟨_, rfl⟩
                have kx : KB (SB b) W8 W9 := by rw [hW6]; exact kb_set W8 b 2 _
                have H6 := Lib.hid (And.intro (H8.out.1.kb kx hTb) (And.intro (H8.out.2.1.kb kx hRb) (And.intro (show LX W9 b s E1 true by rw [hW6]; exact H8.out.2.2.1.stuck true) (H8.out.2.2.2.trans kx))))
                clear kx
                have y0 : W9.cell? ⟨w0.heap.size + 1, 0, none⟩ = some (.int .u8 (4)) := blk_cell H6.out.1 0
                have y1 : W9.cell? ⟨w0.heap.size + 1, 1, none⟩ = some (.int .i64 (i)) := blk_cell H6.out.1 1
                have y2 : W9.cell? ⟨w0.heap.size + 1, 2, none⟩ = some (.int .i64 (0)) := blk_cell H6.out.1 2
                have y3 : W9.cell? ⟨w0.heap.size + 1, 3, none⟩ = some (.string V) := blk_cell H6.out.1 3
                have r0 : (W9).cell? ⟨w0.heap.size, 0, none⟩ = some (.int .u8 0) := blk_cell (H6.out.2.1) 0
                have rf0 : (W9).frozen? ⟨w0.heap.size, 0, none⟩ = false := blk_frozen (H6.out.2.1) 0
                have r1 : ((W9).setCell ⟨w0.heap.size, 0, none⟩ (.int .u8 (4))).cell? ⟨w0.heap.size, 1, none⟩ = some (.int .i64 0) := blk_cell (setCell_blk (i := 0) (H6.out.2.1) (.int .u8 (4))) 1
                have rf1 : ((W9).setCell ⟨w0.heap.size, 0, none⟩ (.int .u8 (4))).frozen? ⟨w0.heap.size, 1, none⟩ = false := blk_frozen (setCell_blk (i := 0) (H6.out.2.1) (.int .u8 (4))) 1
                have r2 : (((W9).setCell ⟨w0.heap.size, 0, none⟩ (.int .u8 (4))).setCell ⟨w0.heap.size, 1, none⟩ (.int .i64 (i))).cell? ⟨w0.heap.size, 2, none⟩ = some (.int .i64 0) := blk_cell (setCell_blk (i := 1) (setCell_blk (i := 0) (H6.out.2.1) (.int .u8 (4))) (.int .i64 (i))) 2
                have rf2 : (((W9).setCell ⟨w0.heap.size, 0, none⟩ (.int .u8 (4))).setCell ⟨w0.heap.size, 1, none⟩ (.int .i64 (i))).frozen? ⟨w0.heap.size, 2, none⟩ = false := blk_frozen (setCell_blk (i := 1) (setCell_blk (i := 0) (H6.out.2.1) (.int .u8 (4))) (.int .i64 (i))) 2
                have r3 : ((((W9).setCell ⟨w0.heap.size, 0, none⟩ (.int .u8 (4))).setCell ⟨w0.heap.size, 1, none⟩ (.int .i64 (i))).setCell ⟨w0.heap.size, 2, none⟩ (.int .i64 (0))).cell? ⟨w0.heap.size, 3, none⟩ = some (.string ⟨#[]⟩) := blk_cell (setCell_blk (i := 2) (setCell_blk (i := 1) (setCell_blk (i := 0) (H6.out.2.1) (.int .u8 (4))) (.int .i64 (i))) (.int .i64 (0))) 3
                have rf3 : ((((W9).setCell ⟨w0.heap.size, 0, none⟩ (.int .u8 (4))).setCell ⟨w0.heap.size, 1, none⟩ (.int .i64 (i))).setCell ⟨w0.heap.size, 2, none⟩ (.int .i64 (0))).frozen? ⟨w0.heap.size, 3, none⟩ = false := blk_frozen (setCell_blk (i := 2) (setCell_blk (i := 1) (setCell_blk (i := 0) (H6.out.2.1) (.int .u8 (4))) (.int .i64 (i))) (.int .i64 (0))) 3
                have HZ : Hid (TK (((((W9).setCell ⟨w0.heap.size, 0, none⟩ (.int .u8 (4))).setCell ⟨w0.heap.size, 1, none⟩ (.int .i64 (i))).setCell ⟨w0.heap.size, 2, none⟩ (.int .i64 (0))).setCell ⟨w0.heap.size, 3, none⟩ (.string V)) w0.heap.size ⟨4, i, 0, V⟩ ∧ LX (((((W9).setCell ⟨w0.heap.size, 0, none⟩ (.int .u8 (4))).setCell ⟨w0.heap.size, 1, none⟩ (.int .i64 (i))).setCell ⟨w0.heap.size, 2, none⟩ (.int .i64 (0))).setCell ⟨w0.heap.size, 3, none⟩ (.string V)) b s E1 (true) ∧ KB (SB b) w0 (((((W9).setCell ⟨w0.heap.size, 0, none⟩ (.int .u8 (4))).setCell ⟨w0.heap.size, 1, none⟩ (.int .i64 (i))).setCell ⟨w0.heap.size, 2, none⟩ (.int .i64 (0))).setCell ⟨w0.heap.size, 3, none⟩ (.string V))) := Lib.hid ⟨setCell_blk (i := 3) (setCell_blk (i := 2) (setCell_blk (i := 1) (setCell_blk (i := 0) (H6.out.2.1) (.int .u8 (4))) (.int .i64 (i))) (.int .i64 (0))) (.string V), (kb_set4 (W9) w0.heap.size (.int .u8 (4)) (.int .i64 (i)) (.int .i64 (0)) (.string V)).heap (fun e => by omega) H6.out.2.2.1,
                  (((H6.out.2.2.2.setCell (p := ⟨w0.heap.size, 0, none⟩) (fun hh => absurd hh (Nat.lt_irrefl _)) (.int .u8 (4))).setCell (p := ⟨w0.heap.size, 1, none⟩) (fun hh => absurd hh (Nat.lt_irrefl _)) (.int .i64 (i))).setCell (p := ⟨w0.heap.size, 2, none⟩) (fun hh => absurd hh (Nat.lt_irrefl _)) (.int .i64 (0))).setCell (p := ⟨w0.heap.size, 3, none⟩) (fun hh => absurd hh (Nat.lt_irrefl _)) (.string V)⟩
                clear H6
                subst hW6
                go_wp2
                (try simp only [Exit.inBlock, Exit.then])
                refine ret_tok (t := ⟨4, i, 0, V⟩) rfl rfl HZ.out.1 rfl ?_
                exact ⟨_, rfl, fun hok => (by rw [HE.out.2.1] at hok; cases hok), by rw [HE.out.1, HE.out.2.1]; exact HZ.out.2.1, HZ.out.2.2⟩
              case false =>
                have H6 := H8
                have y0 : W8.cell? ⟨w0.heap.size + 1, 0, none⟩ = some (.int .u8 (4)) := blk_cell H6.out.1 0
                have y1 : W8.cell? ⟨w0.heap.size + 1, 1, none⟩ = some (.int .i64 (i)) := blk_cell H6.out.1 1
                have y2 : W8.cell? ⟨w0.heap.size + 1, 2, none⟩ = some (.int .i64 (0)) := blk_cell H6.out.1 2
                have y3 : W8.cell? ⟨w0.heap.size + 1, 3, none⟩ = some (.string V) := blk_cell H6.out.1 3
                have r0 : (W8).cell? ⟨w0.heap.size, 0, none⟩ = some (.int .u8 0) := blk_cell (H6.out.2.1) 0
                have rf0 : (W8).frozen? ⟨w0.heap.size, 0, none⟩ = false := blk_frozen (H6.out.2.1) 0
                have r1 : ((W8).setCell ⟨w0.heap.size, 0, none⟩ (.int .u8 (4))).cell? ⟨w0.heap.size, 1, none⟩ = some (.int .i64 0) := blk_cell (setCell_blk (i := 0) (H6.out.2.1) (.int .u8 (4))) 1
                have rf1 : ((W8).setCell ⟨w0.heap.size, 0, none⟩ (.int .u8 (4))).frozen? ⟨w0.heap.size, 1, none⟩ = false := blk_frozen (setCell_blk (i := 0) (H6.out.2.1) (.int .u8 (4))) 1
                have r2 : (((W8).setCell ⟨w0.heap.size, 0, none⟩ (.int .u8 (4))).setCell ⟨w0.heap.size, 1, none⟩ (.int .i64 (i))).cell? ⟨w0.heap.size, 2, none⟩ = some (.int .i64 0) := blk_cell (setCell_blk (i := 1) (setCell_blk (i := 0) (H6.out.2.1) (.int .u8 (4))) (.int .i64 (i))) 2
                have rf2 : (((W8).setCell ⟨w0.heap.size, 0, none⟩ (.int .u8 (4))).setCell ⟨w0.heap.size, 1, none⟩ (.int .i64 (i))).frozen? ⟨w0.heap.size, 2, none⟩ = false := blk_frozen (setCell_blk (i := 1) (setCell_blk (i := 0) (H6.out.2.1) (.int .u8 (4))) (.int .i64 (i))) 2
                have r3 : ((((W8).setCell ⟨w0.heap.size, 0, none⟩ (.int .u8 (4))).setCell ⟨w0.heap.size, 1, none⟩ (.int .i64 (i))).setCell ⟨w0.heap.size, 2, none⟩ (.int .i64 (0))).cell? ⟨w0.heap.size, 3, none⟩ = some (.string ⟨#[]⟩) := blk_cell (setCell_blk (i := 2) (setCell_blk (i := 1) (setCell_blk (i := 0) (H6.out.2.1) (.int .u8 (4))) (.int .i64 (i))) (.int .i64 (0))) 3
                have rf3 : ((((W8).setCell ⟨w0.heap.size, 0, none⟩ (.int .u8 (4))).setCell ⟨w0.heap.size, 1, none⟩ (.int .i64 (i))).setCell ⟨w0.heap.size, 2, none⟩ (.int .i64 (0))).frozen? ⟨w0.heap.size, 3, none⟩ = false := blk_frozen (setCell_blk (i := 2) (setCell_blk (i := 1) (setCell_blk (i := 0) (H6.out.2.1) (.int .u8 (4))) (.int .i64 (i))) (.int .i64 (0))) 3
                have HZ : Hid (TK (((((W8).setCell ⟨w0.heap.size, 0, none⟩ (.int .u8 (4))).setCell ⟨w0.heap.size, 1, none⟩ (.int .i64 (i))).setCell ⟨w0.heap.size, 2, none⟩ (.int .i64 (0))).setCell ⟨w0.heap.size, 3, none⟩ (.string V)) w0.heap.size ⟨4, i, 0, V⟩ ∧ LX (((((W8).setCell ⟨w0.heap.size, 0, none⟩ (.int .u8 (4))).setCell ⟨w0.heap.size, 1, none⟩ (.int .i64 (i))).setCell ⟨w0.heap.size, 2, none⟩ (.int .i64 (0))).setCell ⟨w0.heap.size, 3, none⟩ (.string V)) b s E1 (false) ∧ KB (SB b) w0 (((((W8).setCell ⟨w0.heap.size, 0, none⟩ (.int .u8 (4))).setCell ⟨w0.heap.size, 1, none⟩ (.int .i64 (i))).setCell ⟨w0.heap.size, 2, none⟩ (.int .i64 (0))).setCell ⟨w0.heap.size, 3, none⟩ (.string V))) := Lib.hid ⟨setCell_blk (i := 3) (setCell_blk (i := 2) (setCell_blk (i := 1) (setCell_blk (i := 0) (H6.out.2.1) (.int .u8 (4))) (.int .i64 (i))) (.int .i64 (0))) (.string V), (kb_set4 (W8) w0.heap.size (.int .u8 (4)) (.int .i64 (i)) (.int .i64 (0)) (.string V)).heap (fun e => by omega) H6.out.2.2.1,
                  (((H6.out.2.2.2.setCell (p := ⟨w0.heap.size, 0, none⟩) (fun hh => absurd hh (Nat.lt_irrefl _)) (.int .u8 (4))).setCell (p := ⟨w0.heap.size, 1, none⟩) (fun hh => absurd hh (Nat.lt_irrefl _)) (.int .i64 (i))).setCell (p := ⟨w0.heap.size, 2, none⟩) (fun hh => absurd hh (Nat.lt_irrefl _)) (.int .i64 (0))).setCell (p := ⟨w0.heap.size, 3, none⟩) (fun hh => absurd hh (Nat.lt_irrefl _)) (.string V)⟩
                clear H6
                go_wp2
                (try simp only [Exit.inBlock, Exit.then])
                refine ret_tok (t := ⟨4, i, 0, V⟩) rfl rfl HZ.out.1 rfl ?_
                exact ⟨_, rfl, fun _ => (HE.out.2.2 (by first | trivial | rfl)).symm, by rw [HE.out.1, HE.out.2.1]; exact HZ.out.2.1, HZ.out.2.2⟩
        · have t39 : ((c : Int) == 39) = false := by simp; omega
          have SG := Lib.hid (sign_any b s i hi hs W2 H2.out.2.2.1)
          obtain ⟨l, hl⟩ : ∃ l, l = signL s i := ⟨_, rfl⟩
          rw [← hl] at SG
          have HO1 : Hid (O = if l = 0 then (tk0, if c = 124 then i + 1 else i, false) else (⟨6, i, 0, s.extract i (i + l)⟩, i + l, true)) := Lib.hid (by
            rw [HO.out, oneS]
            simp only
            rw [← HC.out, ← HB.out.1, ← HB.out.2.1, ← HB.out.2.2, if_neg (by decide), if_neg (by decide), if_neg h39, ← hl])
          clear hl h39
          go_wp2_with fail
          refine SG.out.mono ?_
          rintro e W3 ⟨rfl, hx3, k3⟩
          rw [← HC.out] at hx3
          obtain ⟨V, hV⟩ : ∃ V, V = (if l = 0 then (⟨#[]⟩ : ByteArray) else s.extract i (i + l)) := ⟨_, rfl⟩
          rw [← hV]
          have HV := Lib.hid hV
          clear hV
          obtain ⟨E1, hE1⟩ : ∃ E1, E1 = (if l = 0 ∧ c = 124 then i + 1 else i + l) := ⟨_, rfl⟩
          rw [← hE1] at hx3
          have HE : Hid (O.2.1 = E1 ∧ O.2.2 = (!decide (l = 0)) ∧ (O.2.2 = true → O.1 = ⟨6, i, 0, V⟩)) := Lib.hid (by
            rw [HO1.out, HV.out, hE1]
            by_cases h : l = 0
            · rw [if_pos h, decide_eq_true h]
              refine ⟨?_, rfl, fun h' => by cases h'⟩
              by_cases h2 : c = 124
              · rw [if_pos h2, if_pos ⟨h, h2⟩]
              · rw [if_neg h2, if_neg (fun hh => h2 hh.2), h]; rfl
            · rw [if_neg h, if_neg (fun hh => h hh.1), decide_eq_false h]
              exact ⟨rfl, rfl, fun _ => by rw [if_neg h]⟩)
          obtain ⟨st, hst⟩ : ∃ st, st = decide (l = 0) := ⟨_, rfl⟩
          rw [← hst] at hx3 HE
          clear hE1 hst
          have hT3 := H2.out.2.1.kb k3 hTb
          have t0 : W3.cell? ⟨w0.heap.size + 1, 0, none⟩ = some (.int .u8 0) := blk_cell hT3 0
          have tf0 : W3.frozen? ⟨w0.heap.size + 1, 0, none⟩ = false := blk_frozen hT3 0
          have hT4 := setCell_blk (i := 0) hT3 (.int .u8 6)
          have t3 : (W3.setCell ⟨w0.heap.size + 1, 0, none⟩ (.int .u8 6)).cell? ⟨w0.heap.size + 1, 3, none⟩ = some (.string ⟨#[]⟩) := blk_cell hT4 3
          have tf3 : (W3.setCell ⟨w0.heap.size + 1, 0, none⟩ (.int .u8 6)).frozen? ⟨w0.heap.size + 1, 3, none⟩ = false := blk_frozen hT4 3
          obtain ⟨W5, hW5⟩ : ∃ W5, W5 = (W3.setCell ⟨w0.heap.size + 1, 0, none⟩ (.int .u8 6)).setCell ⟨w0.heap.size + 1, 3, none⟩ (.string V) := ⟨_, rfl⟩
          have hT5 : TK W5 (w0.heap.size + 1) ⟨6, i, 0, V⟩ := by rw [hW5]; exact setCell_blk (i := 3) hT4 (.string V)
          have hk35 : KB (fun k => k = w0.heap.size + 1) W3 W5 := by rw [hW5]; exact (kb_set W3 (w0.heap.size + 1) 0 _).trans (kb_set _ (w0.heap.size + 1) 3 _)
          have hR5 := (H2.out.1.kb k3 hRb).kb hk35 (fun e => by omega)
          have hx5 : LX W5 b s E1 (st) := hk35.heap (fun e => by omega) hx3
          have kb5 : KB (SB b) w0 W5 := by rw [hW5]; exact ((H2.out.2.2.2.trans k3).setCell (p := ⟨w0.heap.size + 1, 0, none⟩) (fun hh => by have h1 : w0.heap.size + 1 < w0.heap.size := hh; omega) _).setCell (p := ⟨w0.heap.size + 1, 3, none⟩) (fun hh => by have h1 : w0.heap.size + 1 < w0.heap.size := hh; omega) _
          have y3' : W5.cell? ⟨w0.heap.size + 1, 3, none⟩ = some (.string V) := blk_cell hT5 3
          have H5 := Lib.hid (And.intro hT5 (And.intro hR5 (And.intro hx5 kb5)))
          have y0 : W5.cell? ⟨w0.heap.size + 1, 0, none⟩ = some (.int .u8 (6)) := blk_cell H5.out.1 0
          have y1 : W5.cell? ⟨w0.heap.size + 1, 1, none⟩ = some (.int .i64 (i)) := blk_cell H5.out.1 1
          have y2 : W5.cell? ⟨w0.heap.size + 1, 2, none⟩ = some (.int .i64 (0)) := blk_cell H5.out.1 2
          have y3 : W5.cell? ⟨w0.heap.size + 1, 3, none⟩ = some (.string V) := blk_cell H5.out.1 3
          have r0 : (W5).cell? ⟨w0.heap.size, 0, none⟩ = some (.int .u8 0) := blk_cell (H5.out.2.1) 0
          have rf0 : (W5).frozen? ⟨w0.heap.size, 0, none⟩ = false := blk_frozen (H5.out.2.1) 0
          have r1 : ((W5).setCell ⟨w0.heap.size, 0, none⟩ (.int .u8 (6))).cell? ⟨w0.heap.size, 1, none⟩ = some (.int .i64 0) := blk_cell (setCell_blk (i := 0) (H5.out.2.1) (.int .u8 (6))) 1
          have rf1 : ((W5).setCell ⟨w0.heap.size, 0, none⟩ (.int .u8 (6))).frozen? ⟨w0.heap.size, 1, none⟩ = false := blk_frozen (setCell_blk (i := 0) (H5.out.2.1) (.int .u8 (6))) 1
          have r2 : (((W5).setCell ⟨w0.heap.size, 0, none⟩ (.int .u8 (6))).setCell ⟨w0.heap.size, 1, none⟩ (.int .i64 (i))).cell? ⟨w0.heap.size, 2, none⟩ = some (.int .i64 0) := blk_cell (setCell_blk (i := 1) (setCell_blk (i := 0) (H5.out.2.1) (.int .u8 (6))) (.int .i64 (i))) 2
          have rf2 : (((W5).setCell ⟨w0.heap.size, 0, none⟩ (.int .u8 (6))).setCell ⟨w0.heap.size, 1, none⟩ (.int .i64 (i))).frozen? ⟨w0.heap.size, 2, none⟩ = false := blk_frozen (setCell_blk (i := 1) (setCell_blk (i := 0) (H5.out.2.1) (.int .u8 (6))) (.int .i64 (i))) 2
          have r3 : ((((W5).setCell ⟨w0.heap.size, 0, none⟩ (.int .u8 (6))).setCell ⟨w0.heap.size, 1, none⟩ (.int .i64 (i))).setCell ⟨w0.heap.size, 2, none⟩ (.int .i64 (0))).cell? ⟨w0.heap.size, 3, none⟩ = some (.string ⟨#[]⟩) := blk_cell (setCell_blk (i := 2) (setCell_blk (i := 1) (setCell_blk (i := 0) (H5.out.2.1) (.int .u8 (6))) (.int .i64 (i))) (.int .i64 (0))) 3
          have rf3 : ((((W5).setCell ⟨w0.heap.size, 0, none⟩ (.int .u8 (6))).setCell ⟨w0.heap.size, 1, none⟩ (.int .i64 (i))).setCell ⟨w0.heap.size, 2, none⟩ (.int .i64 (0))).frozen? ⟨w0.heap.size, 3, none⟩ = false := blk_frozen (setCell_blk (i := 2) (setCell_blk (i := 1) (setCell_blk (i := 0) (H5.out.2.1) (.int .u8 (6))) (.int .i64 (i))) (.int .i64 (0))) 3
          have HZ : Hid (TK (((((W5).setCell ⟨w0.heap.size, 0, none⟩ (.int .u8 (6))).setCell ⟨w0.heap.size, 1, none⟩ (.int .i64 (i))).setCell ⟨w0.heap.size, 2, none⟩ (.int .i64 (0))).setCell ⟨w0.heap.size, 3, none⟩ (.string V)) w0.heap.size ⟨6, i, 0, V⟩ ∧ LX (((((W5).setCell ⟨w0.heap.size, 0, none⟩ (.int .u8 (6))).setCell ⟨w0.heap.size, 1, none⟩ (.int .i64 (i))).setCell ⟨w0.heap.size, 2, none⟩ (.int .i64 (0))).setCell ⟨w0.heap.size, 3, none⟩ (.string V)) b s E1 (st) ∧ KB (SB b) w0 (((((W5).setCell ⟨w0.heap.size, 0, none⟩ (.int .u8 (6))).setCell ⟨w0.heap.size, 1, none⟩ (.int .i64 (i))).setCell ⟨w0.heap.size, 2, none⟩ (.int .i64 (0))).setCell ⟨w0.heap.size, 3, none⟩ (.string V))) := Lib.hid ⟨setCell_blk (i := 3) (setCell_blk (i := 2) (setCell_blk (i := 1) (setCell_blk (i := 0) (H5.out.2.1) (.int .u8 (6))) (.int .i64 (i))) (.int .i64 (0))) (.string V), (kb_set4 (W5) w0.heap.size (.int .u8 (6)) (.int .i64 (i)) (.int .i64 (0)) (.string V)).heap (fun e => by omega) H5.out.2.2.1,
            (((H5.out.2.2.2.setCell (p := ⟨w0.heap.size, 0, none⟩) (fun hh => absurd hh (Nat.lt_irrefl _)) (.int .u8 (6))).setCell (p := ⟨w0.heap.size, 1, none⟩) (fun hh => absurd hh (Nat.lt_irrefl _)) (.int .i64 (i))).setCell (p := ⟨w0.heap.size, 2, none⟩) (fun hh => absurd hh (Nat.lt_irrefl _)) (.int .i64 (0))).setCell (p := ⟨w0.heap.size, 3, none⟩) (fun hh => absurd hh (Nat.lt_irrefl _)) (.string V)⟩
          clear hT3 hT4 hT5 hk35 hR5 hx5 kb5 H5
          subst hW5
          go_wp2
          (try simp only [Exit.inBlock, Exit.then])
          refine ret_tok (t := ⟨6, i, 0, V⟩) rfl rfl HZ.out.1 rfl ?_
          exact ⟨_, rfl, fun hok => by exact (HE.out.2.2 hok).symm, by rw [HE.out.1, HE.out.2.1, Bool.not_not]; exact HZ.out.2.1, HZ.out.2.2⟩
end Go.Proofs.YtcbifoimfhfccaaGreatDoor

/- loanwordref02: one. -/
import Derived.Test.YtcbifoimfhfccaaGreatDoorLexM
import Derived.Test.YtcbifoimfhfccaaGreatDoorRegSt
namespace Go.Proofs.YtcbifoimfhfccaaGreatDoor
open Go.RowKit

theorem kb_setRow {S : Nat → Prop} {a w : World} (h : KB S a w) {g : Nat} (hg : g < a.heap.size → S g) (cs : Array Value) : KB S a (w.setRow g cs) :=
  ⟨h.os, h.tape, h.output, by rw [setRow_size]; exact h.size, fun k hk hs => by
    rw [setRow_other w g k cs (fun e => hs (e ▸ hg (e ▸ hk)))]; exact h.block k hk hs⟩
theorem TK.row {w : World} {g : Nat} {t0 : Tk} (h : TK w g t0) (t : Tk) : TK (w.setRow g (tkC t)) g t := setRow_heap w g _ _ _ _ h
theorem tkC_all (t : Tk) : (tkC t).all (·.oneCell') = true := by
  rw [Array.all_eq_true_iff_forall_mem]
  intro x hx
  simp only [tkC, List.mem_toArray, List.mem_cons, List.not_mem_nil, or_false] at hx
  rcases hx with rfl | rfl | rfl | rfl <;> rfl
theorem tkC_info (t : Tk) : (Tryz.prog.info? 27).map (·.size) = some (tkC t).size := by
  show _ = some 4
  kernel_rfl
theorem tkC_size (t t' : Tk) : (tkC t).size = (tkC t').size := rfl
theorem ret_tok3 {fn : Func} {R : Ending → World → Prop} {a : Act} {w : World} {p q r X : Nat} {t : Tk} (h : fn.results = #[.cell p 27, .tmp q, .tmp r]) (hp : a.tmps.getD p undef = .pointer (some ⟨X, 0, none⟩))
    (hc : TK w X t) (hd : a.defers = []) (hR : R (.returned (.tuple #[.agg (tkC t), a.tmps.getD q undef, a.tmps.getD r undef])) w) : bodyPost Tryz.prog fn R .ret a w := by
  refine bodyPost_ret (v := .tuple #[.agg (tkC t), a.tmps.getD q undef, a.tmps.getD r undef]) ?_ hd hR
  have hp' : a.tmps[p]?.getD undef = .pointer (some ⟨X, 0, none⟩) := by simpa using hp
  have c0 : w.cell? ⟨X, 0, none⟩ = some (.int .u8 (t.k : Nat)) := blk_cell hc 0
  have c1 : w.cell? ⟨X, 1, none⟩ = some (.int .i64 t.at_) := blk_cell hc 1
  have c2 : w.cell? ⟨X, 2, none⟩ = some (.int .i64 t.n) := blk_cell hc 2
  have c3 : w.cell? ⟨X, 3, none⟩ = some (.string t.s) := blk_cell hc 3
  simp only [results, h]
  go_simp
  rfl
theorem nameE_le {s : ByteArray} {i : Nat} {g : Bool} (h : i ≤ s.size) : i ≤ (nameE s i g).1 ∧ (nameE s i g).1 ≤ s.size := by
  have := nameF_le s i g (s.size - i) i
  unfold nameE; omega
theorem exec_store_row {P : Program} {o : Oper} {a : Act} {w : World} (ty : TypeId) (x y : Operand) (ho : o.op = .store ty x y)
    (g : Nat) (cells : Array Value) (hx : a.eval x = .pointer (some ⟨g, 0, none⟩)) (hy : a.eval y = .agg cells)
    (t : TypeId) (old : Array Value) (hg : w.heap[g]? = some (.cells old t (0, 0))) (hi : (P.info? ty).map (·.size) = some cells.size)
    (hold : old.size = cells.size) (h1 : cells.all (·.oneCell') = true) : (execOp a.eval o).run P w = .ok .skip (w.setRow g cells) := by
  unfold execOp
  simp only [ho, hx, hy, Instr.storeAt, Instr.sureAddr, Sem.run_bind, Sem.run_pure, Result.andThen_ok, run_storeVar_row w g t ty old cells hg hi hold h1]

theorem sign_shift (s : ByteArray) (i : Nat) (hi : i ≤ s.size) : signL (s.extract i s.size) 0 = signL s i := by
  have hb : ∀ k, byteAt (s.extract i s.size) k = byteAt s (i + k) := fun k => by
    unfold byteAt
    rw [Lib.extract_to_end, List.getD_eq_getElem?_getD, List.getD_eq_getElem?_getD, List.getElem?_drop]
  have hz : (s.extract i s.size).size = s.size - i := by simp
  unfold signL
  rw [hz, hb 0, hb (0 + 1), Nat.add_zero]
  have e1 : (1 < s.size - i) ↔ (i + 1 < s.size) := ⟨fun h => by omega, fun h => by omega⟩
  have e2 : (0 < s.size - i) ↔ (i < s.size) := ⟨fun h => by omega, fun h => by omega⟩
  simp only [e1, e2, Nat.add_zero]
theorem ext_shift (s : ByteArray) (i L : Nat) (h : i + L ≤ s.size) : (s.extract i s.size).extract 0 L = s.extract i (i + L) := by
  apply ByteArray.ext
  apply Array.toList_inj.1
  rw [Lib.extract_data, Lib.extract_to_end, Lib.extract_data]
  simp
namespace St
def kindX (l : List (Nat × (List Value → Value → Prop) × (List Value → Value → World → Prop))) (i : Nat) : OKind :=
  match l.find? (fun p => p.1 == i) with
  | some p => .rel p.2.1 p.2.2
  | none => .det
theorem kindX_mono {G : World → World → Prop} (l : List (Nat × (List Value → Value → Prop) × (List Value → Value → World → Prop)))
    (hl : ∀ p ∈ l, ∀ xs v a b, G a b → p.2.2 xs v a → p.2.2 xs v b) : ∀ i Fp Fw, kindX l i = .rel Fp Fw → ∀ xs v a b, G a b → Fw xs v a → Fw xs v b := by
  intro i Fp Fw h xs v a b hG hf
  unfold kindX at h
  split at h
  · rename_i p hp
    cases h
    exact hl p (List.mem_of_find?_eq_some hp) xs v a b hG hf
  · cases h
/-- New memory; and the token in block g written, to just this one. -/
def GT (g : Nat) (t : Tk) (a b : World) : Prop := KB (fun k => k = g) a b ∧ ((∃ t', TK a g t') → ∃ t', TK b g t') ∧ (TK a g t → TK b g t)
section
variable {g : Nat} {t : Tk}
theorem gt_refl : ∀ a, GT g t a a := fun _ => ⟨KB.refl _ _, fun h => h, fun h => h⟩
theorem gt_trans : ∀ a b c, GT g t a b → GT g t b c → GT g t a c := fun _ _ _ h k => ⟨h.1.trans k.1, fun x => k.2.1 (h.2.1 x), fun x => k.2.2 (h.2.2 x)⟩
theorem gt_kbF {a b : World} (h : KB F0 a b) : GT g t a b := ⟨h.mono (fun _ _ x => x.elim), fun ⟨t', x⟩ => ⟨t', h.heap (fun x => x) x⟩, fun x => h.heap (fun x => x) x⟩
theorem gt_row {w : World} {t' : Tk} (h : TK w g t') : GT g t w (w.setRow g (tkC t)) := ⟨kb_setRow (S := fun k => k = g) (KB.refl _ _) (fun _ => rfl) _, fun _ => ⟨t, h.row t⟩, fun _ => h.row t⟩
end
end St

set_option maxRecDepth 100000 in
set_option maxHeartbeats 8000000 in
theorem rone_any (s : ByteArray) (i : Nat) (hi : i < s.size) (hs : s.size ≤ 65536) (w : World) :
    Calls Tryz.prog 36 #[.string s, .int .i64 i] w fun e w' => ∃ t : Tk, e = .returned (.tuple #[.agg (tkC t), .int .i64 ((oneS s i).2.1 : Nat), .bool (oneS s i).2.2]) ∧ ((oneS s i).2.2 = true → t = (oneS s i).1) ∧ KB F0 w w' := by
  obtain ⟨w0, rfl⟩ : ∃ w0, w0 = w := ⟨_, rfl⟩
  obtain ⟨O, hO⟩ : ∃ O, O = oneS s i := ⟨_, rfl⟩
  rw [← hO]
  have HO := Lib.hid hO
  obtain ⟨W1, hW1⟩ : ∃ W1, W1 = (w0.alloc (.cells #[.int .u8 0, .int .i64 0, .int .i64 0, .string ⟨#[]⟩] 27)).alloc (.cells #[.int .u8 0, .int .i64 i, .int .i64 0, .string ⟨#[]⟩] 27) := ⟨_, rfl⟩
  have k1 : KB F0 w0 W1 := by rw [hW1]; exact ((KB.refl _ _).alloc _).alloc _
  have hs0 : (w0.alloc (.cells #[.int .u8 0, .int .i64 0, .int .i64 0, .string ⟨#[]⟩] 27)).heap.size = w0.heap.size + 1 := by simp
  have hRr : TK W1 w0.heap.size ⟨0, 0, 0, ⟨#[]⟩⟩ := by rw [hW1]; exact ((KB.refl F0 _).alloc _).heap (fun x => x) (alloc_new _ _)
  have hTt : TK W1 (w0.heap.size + 1) ⟨0, i, 0, ⟨#[]⟩⟩ := by rw [hW1, ← hs0]; exact alloc_new _ _
  have hbi := byteAt_eq s i hi
  obtain ⟨c, hc⟩ : ∃ c, c = byteAt s i := ⟨_, rfl⟩
  rw [← hc] at hbi
  have HC := Lib.hid hc
  have H1 := Lib.hid (And.intro hTt (And.intro hRr k1))
  have HW1 := Lib.hid hW1
  have hile : i ≤ s.size := by omega
  clear hO hs0 hRr hTt k1 hc hW1
  go_enter Tryz.func36, Tryz.ntmps36
  go_wp2_with fail
  rw [← HW1.out]
  have SM := Lib.hid (rfSmall_any c W1)
  have GR := Lib.hid (rfGreat_any c W1)
  have DG := Lib.hid (rfDigit_any c W1)
  obtain ⟨sm, hsm⟩ : ∃ sm, sm = smallB c := ⟨_, rfl⟩
  obtain ⟨gr, hgr⟩ : ∃ gr, gr = greatB c := ⟨_, rfl⟩
  obtain ⟨dg, hdg⟩ : ∃ dg, dg = digitB c := ⟨_, rfl⟩
  rw [← hsm] at SM
  rw [← hgr] at GR
  rw [← hdg] at DG
  have HB := Lib.hid (And.intro hsm (And.intro hgr hdg))
  clear hsm hgr hdg
  go_wp2_with fail
  refine SM.out.mono ?_
  rintro e w' ⟨rfl, rfl⟩
  cases sm
  case true =>
    have hgf : gr = false := by rw [HB.out.2.1]; exact small_not_great HB.out.1.symm
    subst hgf
    have HG : Hid ((smallB c || greatB c) = true ∧ greatB c = false) := Lib.hid ⟨by rw [← HB.out.1, ← HB.out.2.1]; rfl, HB.out.2.1.symm⟩
    have NM := Lib.hid (rname_any s i false hile hs W1)
    have hle := nameE_le (g := false) hile
    obtain ⟨E, hE⟩ : ∃ E, E = nameE s i false := ⟨_, rfl⟩
    rw [← hE] at NM hle
    have HO1 : Hid (O = if E.2 = true then (⟨if wordB (s.extract i E.1) = true then 1 else 2, i, 0, s.extract i E.1⟩, E.1, true) else (tk0, E.1, false)) := Lib.hid (by
      rw [HO.out, oneS]
      simp only
      rw [← HC.out, HG.out.1, HG.out.2, if_pos rfl, ← hE]
      rfl)
    clear hE
    obtain ⟨E1, E2⟩ := E
    have l1 : (i : Int) ≤ (E1 : Int) := by have := hle.1; omega
    have l2 : (E1 : Int) ≤ (s.size : Int) := by have := hle.2; omega
    clear hle
    go_wp2_with fail
    refine GR.out.mono ?_
    rintro e w' ⟨rfl, rfl⟩
    go_wp2_with fail
    refine NM.out.mono ?_
    rintro e w' ⟨rfl, hw⟩
    have hw := hw.symm
    subst hw
    cases E2
    case false =>
      have HE : Hid (O = (tk0, E1, false)) := Lib.hid (by rw [HO1.out]; rfl)
      have y0 : (W1).cell? ⟨w0.heap.size + 1, 0, none⟩ = some (.int .u8 (0)) := blk_cell H1.out.1 0
      have y1 : (W1).cell? ⟨w0.heap.size + 1, 1, none⟩ = some (.int .i64 (i)) := blk_cell H1.out.1 1
      have y2 : (W1).cell? ⟨w0.heap.size + 1, 2, none⟩ = some (.int .i64 (0)) := blk_cell H1.out.1 2
      have y3 : (W1).cell? ⟨w0.heap.size + 1, 3, none⟩ = some (.string ⟨#[]⟩) := blk_cell H1.out.1 3
      go_wp2_with (refine wpList_store_row rfl 27 _ _ rfl (w0.heap.size) (tkC ⟨0, i, 0, ⟨#[]⟩⟩) rfl rfl 27 _ H1.out.2.1 (tkC_info _) (tkC_size _ _) (tkC_all _) ?_)
      (try simp only [Exit.inBlock, Exit.then])
      refine ret_tok3 (t := ⟨0, i, 0, ⟨#[]⟩⟩) rfl rfl (TK.row H1.out.2.1 _) rfl ?_
      exact ⟨_, ret_eq (by rw [HE.out]; rfl), fun hok => (by rw [HE.out] at hok; cases hok), kb_setRow H1.out.2.2 (fun hh => absurd hh (Nat.lt_irrefl _)) _⟩
    case true =>
      obtain ⟨V, hV⟩ : ∃ V, V = s.extract i E1 := ⟨_, rfl⟩
      obtain ⟨q, hq⟩ : ∃ q, q = wordB V := ⟨_, rfl⟩
      have HE : Hid (O = (⟨if q = true then 1 else 2, i, 0, V⟩, E1, true)) := Lib.hid (by rw [HO1.out, hq, hV]; rfl)
      have HV := Lib.hid hV
      have HQ := Lib.hid hq
      clear hV hq
      have y0 : (W1).cell? ⟨w0.heap.size + 1, 0, none⟩ = some (.int .u8 (0)) := blk_cell H1.out.1 0
      have y1 : (W1).cell? ⟨w0.heap.size + 1, 1, none⟩ = some (.int .i64 (i)) := blk_cell H1.out.1 1
      have y2 : (W1).cell? ⟨w0.heap.size + 1, 2, none⟩ = some (.int .i64 (0)) := blk_cell H1.out.1 2
      have y3 : (W1).cell? ⟨w0.heap.size + 1, 3, none⟩ = some (.string ⟨#[]⟩) := blk_cell H1.out.1 3
      have f0 : (W1).frozen? ⟨w0.heap.size + 1, 0, none⟩ = false := blk_frozen H1.out.1 0
      have f2 : (W1).frozen? ⟨w0.heap.size + 1, 2, none⟩ = false := blk_frozen H1.out.1 2
      have f3 : (W1).frozen? ⟨w0.heap.size + 1, 3, none⟩ = false := blk_frozen H1.out.1 3
      obtain ⟨W2, hW2⟩ : ∃ W2, W2 = (W1).setCell ⟨w0.heap.size + 1, 3, none⟩ (.string V) := ⟨_, rfl⟩
      have H2 := Lib.hid (And.intro (show TK W2 (w0.heap.size + 1) ⟨0, i, 0, V⟩ by rw [hW2]; exact setCell_blk (i := 3) H1.out.1 (.string V)) (And.intro (show TK W2 w0.heap.size ⟨0, 0, 0, ⟨#[]⟩⟩ by rw [hW2]; exact H1.out.2.1.kb (kb_set (W1) (w0.heap.size + 1) 3 _) (fun e => by omega)) (show KB F0 w0 W2 by rw [hW2]; exact H1.out.2.2.setCell (p := ⟨w0.heap.size + 1, 3, none⟩) (fun hh => by have h1 : w0.heap.size + 1 < w0.heap.size := hh; omega) _)))
      have HW2 := Lib.hid hW2
      clear hW2
      have z0 : W2.cell? ⟨w0.heap.size + 1, 0, none⟩ = some (.int .u8 0) := blk_cell H2.out.1 0
      have g0 : W2.frozen? ⟨w0.heap.size + 1, 0, none⟩ = false := blk_frozen H2.out.1 0
      rw [HW2.out, HV.out] at z0 g0
      obtain ⟨W3, hW3⟩ : ∃ W3, W3 = (W2).setCell ⟨w0.heap.size + 1, 0, none⟩ (.int .u8 2) := ⟨_, rfl⟩
      have H3 := Lib.hid (And.intro (show TK W3 (w0.heap.size + 1) ⟨2, i, 0, V⟩ by rw [hW3]; exact setCell_blk (i := 0) H2.out.1 (.int .u8 2)) (And.intro (show TK W3 w0.heap.size ⟨0, 0, 0, ⟨#[]⟩⟩ by rw [hW3]; exact H2.out.2.1.kb (kb_set (W2) (w0.heap.size + 1) 0 _) (fun e => by omega)) (show KB F0 w0 W3 by rw [hW3]; exact H2.out.2.2.setCell (p := ⟨w0.heap.size + 1, 0, none⟩) (fun hh => by have h1 : w0.heap.size + 1 < w0.heap.size := hh; omega) _)))
      have HW3 := Lib.hid hW3
      clear hW3
      have GR3 := Lib.hid (rfGreat_any c W3)
      rw [HB.out.2.1.symm] at GR3
      go_wp2_with fail
      rw [← HV.out, ← HW2.out, ← HW3.out]
      refine GR3.out.mono ?_
      rintro e w' ⟨rfl, rfl⟩
      clear y0 y1 y2 y3 f0 f2 f3 z0 g0
      have z3 : W3.cell? ⟨w0.heap.size + 1, 3, none⟩ = some (.string V) := blk_cell H3.out.1 3
      have WD := Lib.hid (rword_any V W3)
      go_wp2_with fail
      clear z3
      rw [← HQ.out] at WD
      refine WD.out.mono ?_
      rintro e W5 ⟨rfl, k5⟩
      have H5 := Lib.hid (And.intro (H3.out.1.kb k5 (fun x => x)) (And.intro (H3.out.2.1.kb k5 (fun x => x)) (H3.out.2.2.trans k5)))
      clear k5
      cases q
      case false =>
        have y0 : (W5).cell? ⟨w0.heap.size + 1, 0, none⟩ = some (.int .u8 (2)) := blk_cell H5.out.1 0
        have y1 : (W5).cell? ⟨w0.heap.size + 1, 1, none⟩ = some (.int .i64 (i)) := blk_cell H5.out.1 1
        have y2 : (W5).cell? ⟨w0.heap.size + 1, 2, none⟩ = some (.int .i64 (0)) := blk_cell H5.out.1 2
        have y3 : (W5).cell? ⟨w0.heap.size + 1, 3, none⟩ = some (.string V) := blk_cell H5.out.1 3
        go_wp2_with (refine wpList_store_row rfl 27 _ _ rfl (w0.heap.size) (tkC ⟨2, i, 0, V⟩) rfl rfl 27 _ H5.out.2.1 (tkC_info _) (tkC_size _ _) (tkC_all _) ?_)
        (try simp only [Exit.inBlock, Exit.then])
        refine ret_tok3 (t := ⟨2, i, 0, V⟩) rfl rfl (TK.row H5.out.2.1 _) rfl ?_
        exact ⟨_, ret_eq (by rw [HE.out]; rfl), fun _ => by rw [HE.out]; rfl, kb_setRow H5.out.2.2 (fun hh => absurd hh (Nat.lt_irrefl _)) _⟩
      case true =>
        have z0 : W5.cell? ⟨w0.heap.size + 1, 0, none⟩ = some (.int .u8 2) := blk_cell H5.out.1 0
        have g0 : W5.frozen? ⟨w0.heap.size + 1, 0, none⟩ = false := blk_frozen H5.out.1 0
        obtain ⟨W6, hW6⟩ : ∃ W6, W6 = (W5).setCell ⟨w0.heap.size + 1, 0, none⟩ (.int .u8 1) := ⟨_, rfl⟩
        have H6 := Lib.hid (And.intro (show TK W6 (w0.heap.size + 1) ⟨1, i, 0, V⟩ by rw [hW6]; exact setCell_blk (i := 0) H5.out.1 (.int .u8 1)) (And.intro (show TK W6 w0.heap.size ⟨0, 0, 0, ⟨#[]⟩⟩ by rw [hW6]; exact H5.out.2.1.kb (kb_set (W5) (w0.heap.size + 1) 0 _) (fun e => by omega)) (show KB F0 w0 W6 by rw [hW6]; exact H5.out.2.2.setCell (p := ⟨w0.heap.size + 1, 0, none⟩) (fun hh => by have h1 : w0.heap.size + 1 < w0.heap.size := hh; omega) _)))
        have HW6 := Lib.hid hW6
        clear hW6
        have y0 : (W6).cell? ⟨w0.heap.size + 1, 0, none⟩ = some (.int .u8 (1)) := blk_cell H6.out.1 0
        have y1 : (W6).cell? ⟨w0.heap.size + 1, 1, none⟩ = some (.int .i64 (i)) := blk_cell H6.out.1 1
        have y2 : (W6).cell? ⟨w0.heap.size + 1, 2, none⟩ = some (.int .i64 (0)) := blk_cell H6.out.1 2
        have y3 : (W6).cell? ⟨w0.heap.size + 1, 3, none⟩ = some (.string V) := blk_cell H6.out.1 3
        have HZ := Lib.hid (And.intro H6.out.2.1 H6.out.2.2)
        clear H6
        obtain rfl := HW6.out
        clear HW6
        go_wp2_with (refine wpList_store_row rfl 27 _ _ rfl (w0.heap.size) (tkC ⟨1, i, 0, V⟩) rfl rfl 27 _ HZ.out.1 (tkC_info _) (tkC_size _ _) (tkC_all _) ?_)
        (try simp only [Exit.inBlock, Exit.then])
        refine ret_tok3 (t := ⟨1, i, 0, V⟩) rfl rfl (TK.row HZ.out.1 _) rfl ?_
        exact ⟨_, ret_eq (by rw [HE.out]; rfl), fun _ => by rw [HE.out]; rfl, kb_setRow HZ.out.2 (fun hh => absurd hh (Nat.lt_irrefl _)) _⟩
  case false =>
    go_wp2_with fail
    refine GR.out.mono ?_
    rintro e w' ⟨rfl, rfl⟩
    cases gr
    case true =>
      have HG : Hid ((smallB c || greatB c) = true ∧ greatB c = true) := Lib.hid ⟨by rw [← HB.out.1, ← HB.out.2.1]; rfl, HB.out.2.1.symm⟩
      have NM := Lib.hid (rname_any s i true hile hs W1)
      have hle := nameE_le (g := true) hile
      obtain ⟨E, hE⟩ : ∃ E, E = nameE s i true := ⟨_, rfl⟩
      rw [← hE] at NM hle
      have HO1 : Hid (O = if E.2 = true then (⟨if wordB (s.extract i E.1) = true then 1 else 3, i, 0, s.extract i E.1⟩, E.1, true) else (tk0, E.1, false)) := Lib.hid (by
        rw [HO.out, oneS]
        simp only
        rw [← HC.out, HG.out.1, HG.out.2, if_pos rfl, ← hE]
        rfl)
      clear hE
      obtain ⟨E1, E2⟩ := E
      have l1 : (i : Int) ≤ (E1 : Int) := by have := hle.1; omega
      have l2 : (E1 : Int) ≤ (s.size : Int) := by have := hle.2; omega
      clear hle
      go_wp2_with fail
      refine GR.out.mono ?_
      rintro e w' ⟨rfl, rfl⟩
      go_wp2_with fail
      refine NM.out.mono ?_
      rintro e w' ⟨rfl, hw⟩
      have hw := hw.symm
      subst hw
      cases E2
      case false =>
        have HE : Hid (O = (tk0, E1, false)) := Lib.hid (by rw [HO1.out]; rfl)
        have y0 : (W1).cell? ⟨w0.heap.size + 1, 0, none⟩ = some (.int .u8 (0)) := blk_cell H1.out.1 0
        have y1 : (W1).cell? ⟨w0.heap.size + 1, 1, none⟩ = some (.int .i64 (i)) := blk_cell H1.out.1 1
        have y2 : (W1).cell? ⟨w0.heap.size + 1, 2, none⟩ = some (.int .i64 (0)) := blk_cell H1.out.1 2
        have y3 : (W1).cell? ⟨w0.heap.size + 1, 3, none⟩ = some (.string ⟨#[]⟩) := blk_cell H1.out.1 3
        go_wp2_with (refine wpList_store_row rfl 27 _ _ rfl (w0.heap.size) (tkC ⟨0, i, 0, ⟨#[]⟩⟩) rfl rfl 27 _ H1.out.2.1 (tkC_info _) (tkC_size _ _) (tkC_all _) ?_)
        (try simp only [Exit.inBlock, Exit.then])
        refine ret_tok3 (t := ⟨0, i, 0, ⟨#[]⟩⟩) rfl rfl (TK.row H1.out.2.1 _) rfl ?_
        exact ⟨_, ret_eq (by rw [HE.out]; rfl), fun hok => (by rw [HE.out] at hok; cases hok), kb_setRow H1.out.2.2 (fun hh => absurd hh (Nat.lt_irrefl _)) _⟩
      case true =>
        obtain ⟨V, hV⟩ : ∃ V, V = s.extract i E1 := ⟨_, rfl⟩
        obtain ⟨q, hq⟩ : ∃ q, q = wordB V := ⟨_, rfl⟩
        have HE : Hid (O = (⟨if q = true then 1 else 3, i, 0, V⟩, E1, true)) := Lib.hid (by rw [HO1.out, hq, hV]; rfl)
        have HV := Lib.hid hV
        have HQ := Lib.hid hq
        clear hV hq
        have y0 : (W1).cell? ⟨w0.heap.size + 1, 0, none⟩ = some (.int .u8 (0)) := blk_cell H1.out.1 0
        have y1 : (W1).cell? ⟨w0.heap.size + 1, 1, none⟩ = some (.int .i64 (i)) := blk_cell H1.out.1 1
        have y2 : (W1).cell? ⟨w0.heap.size + 1, 2, none⟩ = some (.int .i64 (0)) := blk_cell H1.out.1 2
        have y3 : (W1).cell? ⟨w0.heap.size + 1, 3, none⟩ = some (.string ⟨#[]⟩) := blk_cell H1.out.1 3
        have f0 : (W1).frozen? ⟨w0.heap.size + 1, 0, none⟩ = false := blk_frozen H1.out.1 0
        have f2 : (W1).frozen? ⟨w0.heap.size + 1, 2, none⟩ = false := blk_frozen H1.out.1 2
        have f3 : (W1).frozen? ⟨w0.heap.size + 1, 3, none⟩ = false := blk_frozen H1.out.1 3
        obtain ⟨W2, hW2⟩ : ∃ W2, W2 = (W1).setCell ⟨w0.heap.size + 1, 3, none⟩ (.string V) := ⟨_, rfl⟩
        have H2 := Lib.hid (And.intro (show TK W2 (w0.heap.size + 1) ⟨0, i, 0, V⟩ by rw [hW2]; exact setCell_blk (i := 3) H1.out.1 (.string V)) (And.intro (show TK W2 w0.heap.size ⟨0, 0, 0, ⟨#[]⟩⟩ by rw [hW2]; exact H1.out.2.1.kb (kb_set (W1) (w0.heap.size + 1) 3 _) (fun e => by omega)) (show KB F0 w0 W2 by rw [hW2]; exact H1.out.2.2.setCell (p := ⟨w0.heap.size + 1, 3, none⟩) (fun hh => by have h1 : w0.heap.size + 1 < w0.heap.size := hh; omega) _)))
        have HW2 := Lib.hid hW2
        clear hW2
        have z0 : W2.cell? ⟨w0.heap.size + 1, 0, none⟩ = some (.int .u8 0) := blk_cell H2.out.1 0
        have g0 : W2.frozen? ⟨w0.heap.size + 1, 0, none⟩ = false := blk_frozen H2.out.1 0
        rw [HW2.out, HV.out] at z0 g0
        obtain ⟨W3, hW3⟩ : ∃ W3, W3 = (W2).setCell ⟨w0.heap.size + 1, 0, none⟩ (.int .u8 2) := ⟨_, rfl⟩
        have H3 := Lib.hid (And.intro (show TK W3 (w0.heap.size + 1) ⟨2, i, 0, V⟩ by rw [hW3]; exact setCell_blk (i := 0) H2.out.1 (.int .u8 2)) (And.intro (show TK W3 w0.heap.size ⟨0, 0, 0, ⟨#[]⟩⟩ by rw [hW3]; exact H2.out.2.1.kb (kb_set (W2) (w0.heap.size + 1) 0 _) (fun e => by omega)) (show KB F0 w0 W3 by rw [hW3]; exact H2.out.2.2.setCell (p := ⟨w0.heap.size + 1, 0, none⟩) (fun hh => by have h1 : w0.heap.size + 1 < w0.heap.size := hh; omega) _)))
        have HW3 := Lib.hid hW3
        clear hW3
        have GR3 := Lib.hid (rfGreat_any c W3)
        rw [HB.out.2.1.symm] at GR3
        go_wp2_with fail
        rw [← HV.out, ← HW2.out, ← HW3.out]
        refine GR3.out.mono ?_
        rintro e w' ⟨rfl, rfl⟩
        clear y0 y1 y2 y3 f0 f2 f3 z0 g0
        have z0 : W3.cell? ⟨w0.heap.size + 1, 0, none⟩ = some (.int .u8 2) := blk_cell H3.out.1 0
        have g0 : W3.frozen? ⟨w0.heap.size + 1, 0, none⟩ = false := blk_frozen H3.out.1 0
        obtain ⟨W4, hW4⟩ : ∃ W4, W4 = (W3).setCell ⟨w0.heap.size + 1, 0, none⟩ (.int .u8 3) := ⟨_, rfl⟩
        have H4 := Lib.hid (And.intro (show TK W4 (w0.heap.size + 1) ⟨3, i, 0, V⟩ by rw [hW4]; exact setCell_blk (i := 0) H3.out.1 (.int .u8 3)) (And.intro (show TK W4 w0.heap.size ⟨0, 0, 0, ⟨#[]⟩⟩ by rw [hW4]; exact H3.out.2.1.kb (kb_set (W3) (w0.heap.size + 1) 0 _) (fun e => by omega)) (show KB F0 w0 W4 by rw [hW4]; exact H3.out.2.2.setCell (p := ⟨w0.heap.size + 1, 0, none⟩) (fun hh => by have h1 : w0.heap.size + 1 < w0.heap.size := hh; omega) _)))
        have HW4 := Lib.hid hW4
        clear hW4
        have z3 : W4.cell? ⟨w0.heap.size + 1, 3, none⟩ = some (.string V) := blk_cell H4.out.1 3
        rw [HW4.out] at z3
        have WD := Lib.hid (rword_any V W4)
        go_wp2_with fail
        rw [← HW4.out]
        clear z0 g0 z3
        rw [← HQ.out] at WD
        refine WD.out.mono ?_
        rintro e W5 ⟨rfl, k5⟩
        have H5 := Lib.hid (And.intro (H4.out.1.kb k5 (fun x => x)) (And.intro (H4.out.2.1.kb k5 (fun x => x)) (H4.out.2.2.trans k5)))
        clear k5
        cases q
        case false =>
          have y0 : (W5).cell? ⟨w0.heap.size + 1, 0, none⟩ = some (.int .u8 (3)) := blk_cell H5.out.1 0
          have y1 : (W5).cell? ⟨w0.heap.size + 1, 1, none⟩ = some (.int .i64 (i)) := blk_cell H5.out.1 1
          have y2 : (W5).cell? ⟨w0.heap.size + 1, 2, none⟩ = some (.int .i64 (0)) := blk_cell H5.out.1 2
          have y3 : (W5).cell? ⟨w0.heap.size + 1, 3, none⟩ = some (.string V) := blk_cell H5.out.1 3
          go_wp2_with (refine wpList_store_row rfl 27 _ _ rfl (w0.heap.size) (tkC ⟨3, i, 0, V⟩) rfl rfl 27 _ H5.out.2.1 (tkC_info _) (tkC_size _ _) (tkC_all _) ?_)
          (try simp only [Exit.inBlock, Exit.then])
          refine ret_tok3 (t := ⟨3, i, 0, V⟩) rfl rfl (TK.row H5.out.2.1 _) rfl ?_
          exact ⟨_, ret_eq (by rw [HE.out]; rfl), fun _ => by rw [HE.out]; rfl, kb_setRow H5.out.2.2 (fun hh => absurd hh (Nat.lt_irrefl _)) _⟩
        case true =>
          have z0 : W5.cell? ⟨w0.heap.size + 1, 0, none⟩ = some (.int .u8 3) := blk_cell H5.out.1 0
          have g0 : W5.frozen? ⟨w0.heap.size + 1, 0, none⟩ = false := blk_frozen H5.out.1 0
          obtain ⟨W6, hW6⟩ : ∃ W6, W6 = (W5).setCell ⟨w0.heap.size + 1, 0, none⟩ (.int .u8 1) := ⟨_, rfl⟩
          have H6 := Lib.hid (And.intro (show TK W6 (w0.heap.size + 1) ⟨1, i, 0, V⟩ by rw [hW6]; exact setCell_blk (i := 0) H5.out.1 (.int .u8 1)) (And.intro (show TK W6 w0.heap.size ⟨0, 0, 0, ⟨#[]⟩⟩ by rw [hW6]; exact H5.out.2.1.kb (kb_set (W5) (w0.heap.size + 1) 0 _) (fun e => by omega)) (show KB F0 w0 W6 by rw [hW6]; exact H5.out.2.2.setCell (p := ⟨w0.heap.size + 1, 0, none⟩) (fun hh => by have h1 : w0.heap.size + 1 < w0.heap.size := hh; omega) _)))
          have HW6 := Lib.hid hW6
          clear hW6
          have y0 : (W6).cell? ⟨w0.heap.size + 1, 0, none⟩ = some (.int .u8 (1)) := blk_cell H6.out.1 0
          have y1 : (W6).cell? ⟨w0.heap.size + 1, 1, none⟩ = some (.int .i64 (i)) := blk_cell H6.out.1 1
          have y2 : (W6).cell? ⟨w0.heap.size + 1, 2, none⟩ = some (.int .i64 (0)) := blk_cell H6.out.1 2
          have y3 : (W6).cell? ⟨w0.heap.size + 1, 3, none⟩ = some (.string V) := blk_cell H6.out.1 3
          have HZ := Lib.hid (And.intro H6.out.2.1 H6.out.2.2)
          clear H6
          obtain rfl := HW6.out
          clear HW6
          go_wp2_with (refine wpList_store_row rfl 27 _ _ rfl (w0.heap.size) (tkC ⟨1, i, 0, V⟩) rfl rfl 27 _ HZ.out.1 (tkC_info _) (tkC_size _ _) (tkC_all _) ?_)
          (try simp only [Exit.inBlock, Exit.then])
          refine ret_tok3 (t := ⟨1, i, 0, V⟩) rfl rfl (TK.row HZ.out.1 _) rfl ?_
          exact ⟨_, ret_eq (by rw [HE.out]; rfl), fun _ => by rw [HE.out]; rfl, kb_setRow HZ.out.2 (fun hh => absurd hh (Nat.lt_irrefl _)) _⟩
    case false =>
      go_wp2_with fail
      refine DG.out.mono ?_
      rintro e w' ⟨rfl, rfl⟩
      cases dg
      case true =>
        have NM := Lib.hid (rnumber_any s i hile hs W1)
        obtain ⟨E, hE⟩ : ∃ E, E = numE s i := ⟨_, rfl⟩
        rw [← hE] at NM
        have HO1 : Hid (O = if E.2.2 = true then (⟨5, i, E.2.1, ByteArray.empty⟩, E.1, true) else (tk0, E.1, false)) := Lib.hid (by
          rw [HO.out, oneS]
          simp only
          rw [← HC.out, ← HB.out.1, ← HB.out.2.1, ← HB.out.2.2, ← hE]
          rfl)
        clear hE
        obtain ⟨E1, E2, E3⟩ := E
        have HE : Hid (O.2.1 = E1 ∧ O.2.2 = E3 ∧ (E3 = true → O.1 = ⟨5, i, E2, ⟨#[]⟩⟩)) := Lib.hid (by
          rw [HO1.out]
          cases E3
          · exact ⟨rfl, rfl, fun h => by cases h⟩
          · exact ⟨rfl, rfl, fun _ => rfl⟩)
        clear HO1
        have y0 : (W1).cell? ⟨w0.heap.size + 1, 0, none⟩ = some (.int .u8 (0)) := blk_cell H1.out.1 0
        have y1 : (W1).cell? ⟨w0.heap.size + 1, 1, none⟩ = some (.int .i64 (i)) := blk_cell H1.out.1 1
        have y2 : (W1).cell? ⟨w0.heap.size + 1, 2, none⟩ = some (.int .i64 (0)) := blk_cell H1.out.1 2
        have y3 : (W1).cell? ⟨w0.heap.size + 1, 3, none⟩ = some (.string ⟨#[]⟩) := blk_cell H1.out.1 3
        have f0 : (W1).frozen? ⟨w0.heap.size + 1, 0, none⟩ = false := blk_frozen H1.out.1 0
        have f2 : (W1).frozen? ⟨w0.heap.size + 1, 2, none⟩ = false := blk_frozen H1.out.1 2
        have f3 : (W1).frozen? ⟨w0.heap.size + 1, 3, none⟩ = false := blk_frozen H1.out.1 3
        obtain ⟨W2, hW2⟩ : ∃ W2, W2 = (W1).setCell ⟨w0.heap.size + 1, 0, none⟩ (.int .u8 5) := ⟨_, rfl⟩
        have H2 := Lib.hid (And.intro (show TK W2 (w0.heap.size + 1) ⟨5, i, 0, ⟨#[]⟩⟩ by rw [hW2]; exact setCell_blk (i := 0) H1.out.1 (.int .u8 5)) (And.intro (show TK W2 w0.heap.size ⟨0, 0, 0, ⟨#[]⟩⟩ by rw [hW2]; exact H1.out.2.1.kb (kb_set (W1) (w0.heap.size + 1) 0 _) (fun e => by omega)) (show KB F0 w0 W2 by rw [hW2]; exact H1.out.2.2.setCell (p := ⟨w0.heap.size + 1, 0, none⟩) (fun hh => by have h1 : w0.heap.size + 1 < w0.heap.size := hh; omega) _)))
        have HW2 := Lib.hid hW2
        clear hW2
        have z2 : W2.cell? ⟨w0.heap.size + 1, 2, none⟩ = some (.int .i64 0) := blk_cell H2.out.1 2
        have g2 : W2.frozen? ⟨w0.heap.size + 1, 2, none⟩ = false := blk_frozen H2.out.1 2
        obtain ⟨W3, hW3⟩ : ∃ W3, W3 = (W2).setCell ⟨w0.heap.size + 1, 2, none⟩ (.int .i64 (E2 : Nat)) := ⟨_, rfl⟩
        have H3 := Lib.hid (And.intro (show TK W3 (w0.heap.size + 1) ⟨5, i, (E2 : Nat), ⟨#[]⟩⟩ by rw [hW3]; exact setCell_blk (i := 2) H2.out.1 (.int .i64 (E2 : Nat))) (And.intro (show TK W3 w0.heap.size ⟨0, 0, 0, ⟨#[]⟩⟩ by rw [hW3]; exact H2.out.2.1.kb (kb_set (W2) (w0.heap.size + 1) 2 _) (fun e => by omega)) (show KB F0 w0 W3 by rw [hW3]; exact H2.out.2.2.setCell (p := ⟨w0.heap.size + 1, 2, none⟩) (fun hh => by have h1 : w0.heap.size + 1 < w0.heap.size := hh; omega) _)))
        have HW3 := Lib.hid hW3
        clear hW3
        go_wp2_with fail
        refine NM.out.mono ?_
        rintro e w' ⟨rfl, hw⟩
        have hw := hw.symm
        subst hw
        have HZ := Lib.hid (And.intro H3.out.2.1 H3.out.2.2)
        have v0 : W3.cell? ⟨w0.heap.size + 1, 0, none⟩ = some (.int .u8 5) := blk_cell H3.out.1 0
        have v1 : W3.cell? ⟨w0.heap.size + 1, 1, none⟩ = some (.int .i64 i) := blk_cell H3.out.1 1
        have v2 : W3.cell? ⟨w0.heap.size + 1, 2, none⟩ = some (.int .i64 (E2 : Nat)) := blk_cell H3.out.1 2
        have v3 : W3.cell? ⟨w0.heap.size + 1, 3, none⟩ = some (.string ⟨#[]⟩) := blk_cell H3.out.1 3
        clear H2 H3
        obtain rfl := HW3.out
        obtain rfl := HW2.out
        clear HW3 HW2
        go_wp2_with (refine wpList_store_row rfl 27 _ _ rfl (w0.heap.size) (tkC ⟨5, i, (E2 : Nat), ⟨#[]⟩⟩) rfl rfl 27 _ HZ.out.1 (tkC_info _) (tkC_size _ _) (tkC_all _) ?_)
        (try simp only [Exit.inBlock, Exit.then])
        refine ret_tok3 (t := ⟨5, i, (E2 : Nat), ⟨#[]⟩⟩) rfl rfl (TK.row HZ.out.1 _) rfl ?_
        exact ⟨_, ret_eq (by rw [HE.out.1, HE.out.2.1]; rfl), fun hok => by rw [HE.out.2.2 (by rw [← HE.out.2.1]; exact hok)], kb_setRow HZ.out.2 (fun hh => absurd hh (Nat.lt_irrefl _)) _⟩
      case false =>
        by_cases h39 : c = 39
        · have t39 : ((c : Int) == 39) = true := by simp; omega
          have w1 : IntKind.i64.wrap ((i : Int) + 1) = (i : Int) + 1 := w64 (by omega) (by omega)
          have HN : Hid ((smallB c || greatB c) = false ∧ digitB c = false ∧ c = 39) := Lib.hid ⟨by rw [← HB.out.1, ← HB.out.2.1]; rfl, HB.out.2.2.symm, h39⟩
          have hO0 : O = if i + 1 < s.size ∧ smallB (byteAt s (i + 1)) = true then (if ((nameE s (i + 1) false).2 && !wordB (s.extract (i + 1) (nameE s (i + 1) false).1)) = true then (⟨4, i, 0, s.extract (i + 1) (nameE s (i + 1) false).1⟩, (nameE s (i + 1) false).1, true) else (tk0, (nameE s (i + 1) false).1, false)) else (tk0, i + 1, false) := by
            rw [HO.out, oneS]
            simp only
            rw [← HC.out, HN.out.1, HN.out.2.1, if_neg (by decide), if_neg (by decide), if_pos HN.out.2.2]
          clear h39
          by_cases hl : i + 1 < s.size
          · have tl : ((i : Int) + 1 == (s.size : Int)) = false := by simp; omega
            have i1 : (i : Int) + 1 < (s.size : Int) := by omega
            have hb1 := byteAt_eq s (i + 1) hl
            obtain ⟨d, hd⟩ : ∃ d, d = byteAt s (i + 1) := ⟨_, rfl⟩
            rw [← hd] at hb1 hO0
            have S2 := Lib.hid (rfSmall_any d W1)
            obtain ⟨sd, hsd⟩ : ∃ sd, sd = smallB d := ⟨_, rfl⟩
            rw [← hsd] at S2 hO0
            clear hd hsd
            cases sd
            case false =>
              have HE : Hid (O = (tk0, i + 1, false)) := Lib.hid (by rw [hO0, if_neg (fun h => by cases h.2)])
              clear hO0
              go_wp2_with fail
              refine S2.out.mono ?_
              rintro e w' ⟨rfl, rfl⟩
              have w1 : IntKind.i64.wrap ((i : Int) + 1) = (i : Int) + 1 := w64 (by omega) (by omega)
              have y0 : (W1).cell? ⟨w0.heap.size + 1, 0, none⟩ = some (.int .u8 (0)) := blk_cell H1.out.1 0
              have y1 : (W1).cell? ⟨w0.heap.size + 1, 1, none⟩ = some (.int .i64 (i)) := blk_cell H1.out.1 1
              have y2 : (W1).cell? ⟨w0.heap.size + 1, 2, none⟩ = some (.int .i64 (0)) := blk_cell H1.out.1 2
              have y3 : (W1).cell? ⟨w0.heap.size + 1, 3, none⟩ = some (.string ⟨#[]⟩) := blk_cell H1.out.1 3
              go_wp2_with (refine wpList_store_row rfl 27 _ _ rfl (w0.heap.size) (tkC ⟨0, i, 0, ⟨#[]⟩⟩) rfl rfl 27 _ H1.out.2.1 (tkC_info _) (tkC_size _ _) (tkC_all _) ?_)
              (try simp only [Exit.inBlock, Exit.then])
              refine ret_tok3 (t := ⟨0, i, 0, ⟨#[]⟩⟩) rfl rfl (TK.row H1.out.2.1 _) rfl ?_
              exact ⟨_, ret_eq (by rw [HE.out]; push_cast; rfl), fun hok => (by rw [HE.out] at hok; cases hok), kb_setRow H1.out.2.2 (fun hh => absurd hh (Nat.lt_irrefl _)) _⟩
            case true =>
              have NM := Lib.hid (rname_any s (i + 1) false (by omega) hs W1)
              have hle := nameE_le (s := s) (i := i + 1) (g := false) (by omega)
              obtain ⟨E, hE⟩ : ∃ E, E = nameE s (i + 1) false := ⟨_, rfl⟩
              rw [← hE] at NM hle hO0
              rw [if_pos ⟨hl, rfl⟩] at hO0
              have HO1 := Lib.hid hO0
              clear hO0 hE
              obtain ⟨E1, E2⟩ := E
              have l1 : (i : Int) + 1 ≤ (E1 : Int) := by have := hle.1; omega
              have l2 : (E1 : Int) ≤ (s.size : Int) := by have := hle.2; omega
              have l3 : ((i : Int) + 1).toNat = i + 1 := by omega
              clear hle
              obtain ⟨V, hV⟩ : ∃ V, V = s.extract (i + 1) E1 := ⟨_, rfl⟩
              have HV := Lib.hid hV
              clear hV
              go_wp2_with fail
              refine S2.out.mono ?_
              rintro e w' ⟨rfl, rfl⟩
              go_wp2_with fail
              refine NM.out.mono ?_
              rintro e w' ⟨rfl, hw⟩
              have hw := hw.symm
              subst hw
              have y0 : (W1).cell? ⟨w0.heap.size + 1, 0, none⟩ = some (.int .u8 (0)) := blk_cell H1.out.1 0
              have y1 : (W1).cell? ⟨w0.heap.size + 1, 1, none⟩ = some (.int .i64 (i)) := blk_cell H1.out.1 1
              have y2 : (W1).cell? ⟨w0.heap.size + 1, 2, none⟩ = some (.int .i64 (0)) := blk_cell H1.out.1 2
              have y3 : (W1).cell? ⟨w0.heap.size + 1, 3, none⟩ = some (.string ⟨#[]⟩) := blk_cell H1.out.1 3
              have f0 : (W1).frozen? ⟨w0.heap.size + 1, 0, none⟩ = false := blk_frozen H1.out.1 0
              have f2 : (W1).frozen? ⟨w0.heap.size + 1, 2, none⟩ = false := blk_frozen H1.out.1 2
              have f3 : (W1).frozen? ⟨w0.heap.size + 1, 3, none⟩ = false := blk_frozen H1.out.1 3
              obtain ⟨W2, hW2⟩ : ∃ W2, W2 = (W1).setCell ⟨w0.heap.size + 1, 0, none⟩ (.int .u8 4) := ⟨_, rfl⟩
              have H2 := Lib.hid (And.intro (show TK W2 (w0.heap.size + 1) ⟨4, i, 0, ⟨#[]⟩⟩ by rw [hW2]; exact setCell_blk (i := 0) H1.out.1 (.int .u8 4)) (And.intro (show TK W2 w0.heap.size ⟨0, 0, 0, ⟨#[]⟩⟩ by rw [hW2]; exact H1.out.2.1.kb (kb_set (W1) (w0.heap.size + 1) 0 _) (fun e => by omega)) (show KB F0 w0 W2 by rw [hW2]; exact H1.out.2.2.setCell (p := ⟨w0.heap.size + 1, 0, none⟩) (fun hh => by have h1 : w0.heap.size + 1 < w0.heap.size := hh; omega) _)))
              have HW2 := Lib.hid hW2
              clear hW2
              have z3 : W2.cell? ⟨w0.heap.size + 1, 3, none⟩ = some (.string ⟨#[]⟩) := blk_cell H2.out.1 3
              have g3 : W2.frozen? ⟨w0.heap.size + 1, 3, none⟩ = false := blk_frozen H2.out.1 3
              rw [HW2.out] at z3 g3
              obtain ⟨W3, hW3⟩ : ∃ W3, W3 = (W2).setCell ⟨w0.heap.size + 1, 3, none⟩ (.string V) := ⟨_, rfl⟩
              have H3 := Lib.hid (And.intro (show TK W3 (w0.heap.size + 1) ⟨4, i, 0, V⟩ by rw [hW3]; exact setCell_blk (i := 3) H2.out.1 (.string V)) (And.intro (show TK W3 w0.heap.size ⟨0, 0, 0, ⟨#[]⟩⟩ by rw [hW3]; exact H2.out.2.1.kb (kb_set (W2) (w0.heap.size + 1) 3 _) (fun e => by omega)) (show KB F0 w0 W3 by rw [hW3]; exact H2.out.2.2.setCell (p := ⟨w0.heap.size + 1, 3, none⟩) (fun hh => by have h1 : w0.heap.size + 1 < w0.heap.size := hh; omega) _)))
              have HW3 := Lib.hid hW3
              clear hW3
              go_wp2_with fail
              rw [← HV.out, ← HW2.out, ← HW3.out]
              clear y0 y1 y2 y3 f0 f2 f3 z3 g3
              cases E2
              case false =>
                have HE : Hid (O = (tk0, E1, false)) := Lib.hid (by rw [HO1.out]; rfl)
                have y0 : (W3).cell? ⟨w0.heap.size + 1, 0, none⟩ = some (.int .u8 (4)) := blk_cell H3.out.1 0
                have y1 : (W3).cell? ⟨w0.heap.size + 1, 1, none⟩ = some (.int .i64 (i)) := blk_cell H3.out.1 1
                have y2 : (W3).cell? ⟨w0.heap.size + 1, 2, none⟩ = some (.int .i64 (0)) := blk_cell H3.out.1 2
                have y3 : (W3).cell? ⟨w0.heap.size + 1, 3, none⟩ = some (.string V) := blk_cell H3.out.1 3
                go_wp2_with fail
                refine St.wp_region_rv 12 (St.GT w0.heap.size ⟨4, i, 0, V⟩) (St.kindX [(9, fun _ _ => True, fun _ _ w => TK w w0.heap.size ⟨4, i, 0, V⟩)]) (by kernel_rfl) (by kernel_rfl) St.gt_trans St.gt_refl (St.gt_kbF (kb_start _ _)) (St.kindX_mono _ (by
                  intro p hp xs v a b hG
                  simp only [List.mem_cons, List.not_mem_nil, or_false] at hp
                  rcases hp with rfl
                  · exact hG.2.2
                )) ?_
                simp only [List.take_succ_cons, List.take_zero, List.drop_succ_cons, List.drop_zero]
                iterate 1 (refine St.rv_det (by kernel_rfl) rfl (by intro w hG hH; have c0 := hG.1.cell (p := ⟨w0.heap.size + 1, 0, none⟩) (fun e => absurd e (Nat.succ_ne_self _)) y0; have c1 := hG.1.cell (p := ⟨w0.heap.size + 1, 1, none⟩) (fun e => absurd e (Nat.succ_ne_self _)) y1; have c2 := hG.1.cell (p := ⟨w0.heap.size + 1, 2, none⟩) (fun e => absurd e (Nat.succ_ne_self _)) y2; have c3 := hG.1.cell (p := ⟨w0.heap.size + 1, 3, none⟩) (fun e => absurd e (Nat.succ_ne_self _)) y3; go_simp; first | done | with_reducible rfl) ?_; simp only [Act.put, List.setIfInBounds_toArray, List.set_cons_zero, List.set_cons_succ])
                iterate 3 (refine St.rv_det (by kernel_rfl) rfl (by intro w hG hH; go_simp; first | done | with_reducible rfl) ?_; simp only [Act.put, List.setIfInBounds_toArray, List.set_cons_zero, List.set_cons_succ])
                iterate 4 (refine St.rv_skip (by kernel_rfl) ?_; simp only [Act.put, List.setIfInBounds_toArray, List.set_cons_zero, List.set_cons_succ])
                iterate 1 (refine St.rv_det (by kernel_rfl) rfl (by intro w hG hH; go_simp; first | done | with_reducible rfl) ?_; simp only [Act.put, List.setIfInBounds_toArray, List.set_cons_zero, List.set_cons_succ])
                refine St.rv_rel (by kernel_rfl) rfl ⟨undef, trivial⟩ (by
                  intro w hG hH
                  obtain ⟨t', ht'⟩ := hG.2.1 ⟨_, H3.out.2.1⟩
                  exact St.opVal_skip (exec_store_row 27 _ _ rfl w0.heap.size (tkC ⟨4, i, 0, V⟩) rfl rfl 27 _ ht' (tkC_info _) (tkC_size _ _) (tkC_all _)) ⟨trivial, St.gt_row ht', ht'.row _⟩) ?_
                rintro v -
                simp only [Act.put, List.setIfInBounds_toArray, List.set_cons_zero, List.set_cons_succ]
                iterate 2 (refine St.rv_det (by kernel_rfl) rfl (by intro w hG hH; go_simp; first | done | with_reducible rfl) ?_; simp only [Act.put, List.setIfInBounds_toArray, List.set_cons_zero, List.set_cons_succ])
                refine St.rv_nil (fun w9 hG9 hH9 => ?_)
                have hT9 : TK w9 w0.heap.size ⟨4, i, 0, V⟩ := hH9 (9, fun w => TK w w0.heap.size ⟨4, i, 0, V⟩) (List.Mem.head _)
                have K9 : KB F0 w0 w9 := H3.out.2.2.above hG9.1 (fun g e => by rw [e]; exact Nat.le_refl _)
                have H9 := Lib.hid (And.intro hT9 K9)
                clear hG9 hH9 hT9 K9 y0 y1 y2 y3
                go_wp2
                (try simp only [Exit.inBlock, Exit.then])
                refine ret_tok3 (t := ⟨4, i, 0, V⟩) rfl rfl H9.out.1 rfl ?_
                exact ⟨_, ret_eq (by rw [HE.out]; rfl), fun hok => (by rw [HE.out] at hok; cases hok), H9.out.2⟩
              case true =>
                have WD := Lib.hid (fun (W : World) => rword_any V W)
                obtain ⟨q, hq⟩ : ∃ q, q = wordB V := ⟨_, rfl⟩
                have HE : Hid (O.2.1 = E1 ∧ O.2.2 = (!q) ∧ (q = false → O.1 = ⟨4, i, 0, V⟩)) := Lib.hid (by
                  rw [HO1.out]
                  show (if (true && !wordB (s.extract (i + 1) E1)) = true then ((⟨4, i, 0, s.extract (i + 1) E1⟩ : Tk), E1, true) else (tk0, E1, false)).2.1 = E1 ∧ _
                  rw [← HV.out, ← hq]
                  cases q
                  · exact ⟨rfl, rfl, fun _ => rfl⟩
                  · exact ⟨rfl, rfl, fun h => by cases h⟩)
                rw [← hq] at WD
                clear hq
                have y0 : (W3).cell? ⟨w0.heap.size + 1, 0, none⟩ = some (.int .u8 (4)) := blk_cell H3.out.1 0
                have y1 : (W3).cell? ⟨w0.heap.size + 1, 1, none⟩ = some (.int .i64 (i)) := blk_cell H3.out.1 1
                have y2 : (W3).cell? ⟨w0.heap.size + 1, 2, none⟩ = some (.int .i64 (0)) := blk_cell H3.out.1 2
                have y3 : (W3).cell? ⟨w0.heap.size + 1, 3, none⟩ = some (.string V) := blk_cell H3.out.1 3
                go_wp2_with fail
                refine St.wp_region_rv 12 (St.GT w0.heap.size ⟨4, i, 0, V⟩) (St.kindX [(9, fun _ _ => True, fun _ _ w => TK w w0.heap.size ⟨4, i, 0, V⟩), (6, fun _ v => v = .bool q, fun _ _ _ => True)]) (by kernel_rfl) (by kernel_rfl) St.gt_trans St.gt_refl (St.gt_kbF (kb_start _ _)) (St.kindX_mono _ (by
                  intro p hp xs v a b hG
                  simp only [List.mem_cons, List.not_mem_nil, or_false] at hp
                  rcases hp with rfl | rfl
                  · exact hG.2.2
                  · exact fun _ => trivial)) ?_
                simp only [List.take_succ_cons, List.take_zero, List.drop_succ_cons, List.drop_zero]
                iterate 1 (refine St.rv_det (by kernel_rfl) rfl (by intro w hG hH; have c0 := hG.1.cell (p := ⟨w0.heap.size + 1, 0, none⟩) (fun e => absurd e (Nat.succ_ne_self _)) y0; have c1 := hG.1.cell (p := ⟨w0.heap.size + 1, 1, none⟩) (fun e => absurd e (Nat.succ_ne_self _)) y1; have c2 := hG.1.cell (p := ⟨w0.heap.size + 1, 2, none⟩) (fun e => absurd e (Nat.succ_ne_self _)) y2; have c3 := hG.1.cell (p := ⟨w0.heap.size + 1, 3, none⟩) (fun e => absurd e (Nat.succ_ne_self _)) y3; go_simp; first | done | with_reducible rfl) ?_; simp only [Act.put, List.setIfInBounds_toArray, List.set_cons_zero, List.set_cons_succ])
                iterate 3 (refine St.rv_det (by kernel_rfl) rfl (by intro w hG hH; go_simp; first | done | with_reducible rfl) ?_; simp only [Act.put, List.setIfInBounds_toArray, List.set_cons_zero, List.set_cons_succ])
                iterate 2 (refine St.rv_det (by kernel_rfl) rfl (by intro w hG hH; have c3 := hG.1.cell (p := ⟨w0.heap.size + 1, 3, none⟩) (fun e => absurd e (Nat.succ_ne_self _)) y3; go_simp; first | done | with_reducible rfl) ?_; simp only [Act.put, List.setIfInBounds_toArray, List.set_cons_zero, List.set_cons_succ])
                refine St.rv_rel (by kernel_rfl) rfl ⟨.bool q, rfl⟩ (by
                  intro w hG hH
                  refine St.opVal_call (by go_simp; first | done | exact ⟨⟨rfl, rfl⟩, rfl⟩) ?_
                  refine (WD.out _).mono ?_
                  rintro e w' ⟨rfl, hk⟩
                  exact ⟨_, rfl, rfl, St.gt_kbF hk, trivial⟩) ?_
                rintro v rfl
                simp only [Act.put, List.setIfInBounds_toArray, List.set_cons_zero, List.set_cons_succ]
                iterate 2 (refine St.rv_det (by kernel_rfl) rfl (by intro w hG hH; go_simp; first | done | with_reducible rfl) ?_; simp only [Act.put, List.setIfInBounds_toArray, List.set_cons_zero, List.set_cons_succ])
                refine St.rv_rel (by kernel_rfl) rfl ⟨undef, trivial⟩ (by
                  intro w hG hH
                  obtain ⟨t', ht'⟩ := hG.2.1 ⟨_, H3.out.2.1⟩
                  exact St.opVal_skip (exec_store_row 27 _ _ rfl w0.heap.size (tkC ⟨4, i, 0, V⟩) rfl rfl 27 _ ht' (tkC_info _) (tkC_size _ _) (tkC_all _)) ⟨trivial, St.gt_row ht', ht'.row _⟩) ?_
                rintro v -
                simp only [Act.put, List.setIfInBounds_toArray, List.set_cons_zero, List.set_cons_succ]
                iterate 2 (refine St.rv_det (by kernel_rfl) rfl (by intro w hG hH; go_simp; first | done | with_reducible rfl) ?_; simp only [Act.put, List.setIfInBounds_toArray, List.set_cons_zero, List.set_cons_succ])
                refine St.rv_nil (fun w9 hG9 hH9 => ?_)
                have hT9 : TK w9 w0.heap.size ⟨4, i, 0, V⟩ := hH9 (9, fun w => TK w w0.heap.size ⟨4, i, 0, V⟩) (List.Mem.head _)
                have K9 : KB F0 w0 w9 := H3.out.2.2.above hG9.1 (fun g e => by rw [e]; exact Nat.le_refl _)
                have H9 := Lib.hid (And.intro hT9 K9)
                clear hG9 hH9 hT9 K9 y0 y1 y2 y3
                go_wp2
                (try simp only [Exit.inBlock, Exit.then])
                refine ret_tok3 (t := ⟨4, i, 0, V⟩) rfl rfl H9.out.1 rfl ?_
                exact ⟨_, ret_eq (by rw [HE.out.1, HE.out.2.1]; rfl), fun hok => by rw [HE.out.2.2 (by rw [HE.out.2.1] at hok; cases q <;> first | rfl | cases hok)], H9.out.2⟩
          · have tl : ((i : Int) + 1 == (s.size : Int)) = true := by simp; omega
            have HE : Hid (O = (tk0, i + 1, false)) := Lib.hid (by rw [hO0, if_neg (fun h => hl h.1)])
            clear hO0
            have w1 : IntKind.i64.wrap ((i : Int) + 1) = (i : Int) + 1 := w64 (by omega) (by omega)
            have y0 : (W1).cell? ⟨w0.heap.size + 1, 0, none⟩ = some (.int .u8 (0)) := blk_cell H1.out.1 0
            have y1 : (W1).cell? ⟨w0.heap.size + 1, 1, none⟩ = some (.int .i64 (i)) := blk_cell H1.out.1 1
            have y2 : (W1).cell? ⟨w0.heap.size + 1, 2, none⟩ = some (.int .i64 (0)) := blk_cell H1.out.1 2
            have y3 : (W1).cell? ⟨w0.heap.size + 1, 3, none⟩ = some (.string ⟨#[]⟩) := blk_cell H1.out.1 3
            go_wp2_with (refine wpList_store_row rfl 27 _ _ rfl (w0.heap.size) (tkC ⟨0, i, 0, ⟨#[]⟩⟩) rfl rfl 27 _ H1.out.2.1 (tkC_info _) (tkC_size _ _) (tkC_all _) ?_)
            (try simp only [Exit.inBlock, Exit.then])
            refine ret_tok3 (t := ⟨0, i, 0, ⟨#[]⟩⟩) rfl rfl (TK.row H1.out.2.1 _) rfl ?_
            exact ⟨_, ret_eq (by rw [HE.out]; push_cast; rfl), fun hok => (by rw [HE.out] at hok; cases hok), kb_setRow H1.out.2.2 (fun hh => absurd hh (Nat.lt_irrefl _)) _⟩
        · have t39 : ((c : Int) == 39) = false := by simp; omega
          have hO0 : O = if signL s i = 0 then (tk0, if c = 124 then i + 1 else i, false) else (⟨6, i, 0, s.extract i (i + signL s i)⟩, i + signL s i, true) := by
            rw [HO.out, oneS]
            simp only
            rw [← HC.out, ← HB.out.1, ← HB.out.2.1, ← HB.out.2.2, if_neg (by decide), if_neg (by decide), if_neg h39]
          have RS := Lib.hid (fun (W : World) => rsign_any (s.extract i s.size) (by simp; omega) W)
          have hsl := signL_le hi
          obtain ⟨L, hL⟩ : ∃ L, L = signL s i := ⟨_, rfl⟩
          rw [sign_shift s i hile, ← hL, ext_shift s i L (by rw [hL]; exact hsl.1)] at RS
          rw [← hL] at hO0 hsl
          obtain ⟨V, hV⟩ : ∃ V, V = s.extract i (i + L) := ⟨_, rfl⟩
          rw [← hV] at RS hO0
          have hVs : V.size = L := by rw [hV]; simp; omega
          obtain ⟨p, hp⟩ : ∃ p, p = decide (L = 0) := ⟨_, rfl⟩
          have te : (V.toList == []) = p := by
            rw [toList_beq, hp, Bool.eq_iff_iff, decide_eq_true_iff, decide_eq_true_iff, ← hVs]
            constructor
            · intro h; rw [h]; rfl
            · intro h; apply ByteArray.ext; apply Array.eq_empty_of_size_eq_zero; exact h
          have w1 : IntKind.i64.wrap ((i : Int) + (L : Int)) = (i : Int) + (L : Int) := w64 (by omega) (by omega)
          have hVz : ((V.size : Nat) : Int) = (L : Int) := by rw [hVs]
          have HP := Lib.hid hp
          clear h39 hL hV hp hVs hsl
          by_cases h124 : c = 124
          · have t124 : ((c : Int) == 124) = true := by simp; omega
            cases p
            case true =>
              have hL0 : L = 0 := of_decide_eq_true HP.out.symm
              have HE : Hid (O = (tk0, i + 1, false)) := Lib.hid (by rw [hO0, if_pos hL0, if_pos h124])
              clear hO0 h124 hL0
              go_wp2_with fail
              refine (RS.out W1).mono ?_
              rintro e W2 ⟨rfl, k2⟩
              have H2 := Lib.hid (And.intro (H1.out.1.kb k2 (fun x => x)) (And.intro (H1.out.2.1.kb k2 (fun x => x)) (H1.out.2.2.trans k2)))
              clear k2 w1
              have w1 : IntKind.i64.wrap ((i : Int) + 1) = (i : Int) + 1 := w64 (by omega) (by omega)
              have y0 : (W2).cell? ⟨w0.heap.size + 1, 0, none⟩ = some (.int .u8 (0)) := blk_cell H2.out.1 0
              have y1 : (W2).cell? ⟨w0.heap.size + 1, 1, none⟩ = some (.int .i64 (i)) := blk_cell H2.out.1 1
              have y2 : (W2).cell? ⟨w0.heap.size + 1, 2, none⟩ = some (.int .i64 (0)) := blk_cell H2.out.1 2
              have y3 : (W2).cell? ⟨w0.heap.size + 1, 3, none⟩ = some (.string ⟨#[]⟩) := blk_cell H2.out.1 3
              go_wp2_with (refine wpList_store_row rfl 27 _ _ rfl (w0.heap.size) (tkC ⟨0, i, 0, ⟨#[]⟩⟩) rfl rfl 27 _ H2.out.2.1 (tkC_info _) (tkC_size _ _) (tkC_all _) ?_)
              (try simp only [Exit.inBlock, Exit.then])
              refine ret_tok3 (t := ⟨0, i, 0, ⟨#[]⟩⟩) rfl rfl (TK.row H2.out.2.1 _) rfl ?_
              exact ⟨_, ret_eq (by rw [HE.out]; push_cast; rfl), fun hok => (by rw [HE.out] at hok; cases hok), kb_setRow H2.out.2.2 (fun hh => absurd hh (Nat.lt_irrefl _)) _⟩
            case false =>
              have hL0 : ¬ L = 0 := of_decide_eq_false HP.out.symm
              have HE : Hid (O.2.1 = i + L ∧ O.2.2 = (!false) ∧ ((!false) = true → O.1 = ⟨6, i, 0, V⟩)) := Lib.hid (by rw [hO0, if_neg hL0]; exact ⟨rfl, rfl, fun _ => rfl⟩)
              clear hO0 h124 hL0
              go_wp2_with fail
              refine (RS.out W1).mono ?_
              rintro e W1b ⟨rfl, k2⟩
              have H1b := Lib.hid (And.intro (H1.out.1.kb k2 (fun x => x)) (And.intro (H1.out.2.1.kb k2 (fun x => x)) (H1.out.2.2.trans k2)))
              clear k2
              have y0 : (W1b).cell? ⟨w0.heap.size + 1, 0, none⟩ = some (.int .u8 (0)) := blk_cell H1b.out.1 0
              have y1 : (W1b).cell? ⟨w0.heap.size + 1, 1, none⟩ = some (.int .i64 (i)) := blk_cell H1b.out.1 1
              have y2 : (W1b).cell? ⟨w0.heap.size + 1, 2, none⟩ = some (.int .i64 (0)) := blk_cell H1b.out.1 2
              have y3 : (W1b).cell? ⟨w0.heap.size + 1, 3, none⟩ = some (.string ⟨#[]⟩) := blk_cell H1b.out.1 3
              have f0 : (W1b).frozen? ⟨w0.heap.size + 1, 0, none⟩ = false := blk_frozen H1b.out.1 0
              have f2 : (W1b).frozen? ⟨w0.heap.size + 1, 2, none⟩ = false := blk_frozen H1b.out.1 2
              have f3 : (W1b).frozen? ⟨w0.heap.size + 1, 3, none⟩ = false := blk_frozen H1b.out.1 3
              obtain ⟨W2, hW2⟩ : ∃ W2, W2 = (W1b).setCell ⟨w0.heap.size + 1, 0, none⟩ (.int .u8 6) := ⟨_, rfl⟩
              have H2 := Lib.hid (And.intro (show TK W2 (w0.heap.size + 1) ⟨6, i, 0, ⟨#[]⟩⟩ by rw [hW2]; exact setCell_blk (i := 0) H1b.out.1 (.int .u8 6)) (And.intro (show TK W2 w0.heap.size ⟨0, 0, 0, ⟨#[]⟩⟩ by rw [hW2]; exact H1b.out.2.1.kb (kb_set (W1b) (w0.heap.size + 1) 0 _) (fun e => by omega)) (show KB F0 w0 W2 by rw [hW2]; exact H1b.out.2.2.setCell (p := ⟨w0.heap.size + 1, 0, none⟩) (fun hh => by have h1 : w0.heap.size + 1 < w0.heap.size := hh; omega) _)))
              have HW2 := Lib.hid hW2
              clear hW2
              go_wp2_with fail
              rw [← HW2.out]
              refine (RS.out W2).mono ?_
              rintro e W3 ⟨rfl, k3⟩
              have H3 := Lib.hid (And.intro (H2.out.1.kb k3 (fun x => x)) (And.intro (H2.out.2.1.kb k3 (fun x => x)) (H2.out.2.2.trans k3)))
              clear k3 y0 y1 y2 y3 f0 f2 f3
              have z3 : W3.cell? ⟨w0.heap.size + 1, 3, none⟩ = some (.string ⟨#[]⟩) := blk_cell H3.out.1 3
              have g3 : W3.frozen? ⟨w0.heap.size + 1, 3, none⟩ = false := blk_frozen H3.out.1 3
              obtain ⟨W4, hW4⟩ : ∃ W4, W4 = (W3).setCell ⟨w0.heap.size + 1, 3, none⟩ (.string V) := ⟨_, rfl⟩
              have H4 := Lib.hid (And.intro (show TK W4 (w0.heap.size + 1) ⟨6, i, 0, V⟩ by rw [hW4]; exact setCell_blk (i := 3) H3.out.1 (.string V)) (And.intro (show TK W4 w0.heap.size ⟨0, 0, 0, ⟨#[]⟩⟩ by rw [hW4]; exact H3.out.2.1.kb (kb_set (W3) (w0.heap.size + 1) 3 _) (fun e => by omega)) (show KB F0 w0 W4 by rw [hW4]; exact H3.out.2.2.setCell (p := ⟨w0.heap.size + 1, 3, none⟩) (fun hh => by have h1 : w0.heap.size + 1 < w0.heap.size := hh; omega) _)))
              have HW4 := Lib.hid hW4
              clear hW4
              go_wp2_with fail
              rw [← HW4.out]
              clear z3 g3
              have y0 : (W4).cell? ⟨w0.heap.size + 1, 0, none⟩ = some (.int .u8 (6)) := blk_cell H4.out.1 0
              have y1 : (W4).cell? ⟨w0.heap.size + 1, 1, none⟩ = some (.int .i64 (i)) := blk_cell H4.out.1 1
              have y2 : (W4).cell? ⟨w0.heap.size + 1, 2, none⟩ = some (.int .i64 (0)) := blk_cell H4.out.1 2
              have y3 : (W4).cell? ⟨w0.heap.size + 1, 3, none⟩ = some (.string V) := blk_cell H4.out.1 3
              refine St.wp_region_rv 12 (St.GT w0.heap.size ⟨6, i, 0, V⟩) (St.kindX [(9, fun _ _ => True, fun _ _ w => TK w w0.heap.size ⟨6, i, 0, V⟩)]) (by kernel_rfl) (by kernel_rfl) St.gt_trans St.gt_refl (St.gt_kbF (kb_start _ _)) (St.kindX_mono _ (by
                intro p hp xs v a b hG
                simp only [List.mem_cons, List.not_mem_nil, or_false] at hp
                rcases hp with rfl
                · exact hG.2.2
              )) ?_
              simp only [List.take_succ_cons, List.take_zero, List.drop_succ_cons, List.drop_zero]
              iterate 1 (refine St.rv_det (by kernel_rfl) rfl (by intro w hG hH; have c0 := hG.1.cell (p := ⟨w0.heap.size + 1, 0, none⟩) (fun e => absurd e (Nat.succ_ne_self _)) y0; have c1 := hG.1.cell (p := ⟨w0.heap.size + 1, 1, none⟩) (fun e => absurd e (Nat.succ_ne_self _)) y1; have c2 := hG.1.cell (p := ⟨w0.heap.size + 1, 2, none⟩) (fun e => absurd e (Nat.succ_ne_self _)) y2; have c3 := hG.1.cell (p := ⟨w0.heap.size + 1, 3, none⟩) (fun e => absurd e (Nat.succ_ne_self _)) y3; go_simp; first | done | with_reducible rfl) ?_; simp only [Act.put, List.setIfInBounds_toArray, List.set_cons_zero, List.set_cons_succ])
              iterate 1 (refine St.rv_det (by kernel_rfl) rfl (by intro w hG hH; go_simp; first | done | with_reducible rfl) ?_; simp only [Act.put, List.setIfInBounds_toArray, List.set_cons_zero, List.set_cons_succ])
              iterate 6 (refine St.rv_det (by kernel_rfl) rfl (by intro w hG hH; have c3 := hG.1.cell (p := ⟨w0.heap.size + 1, 3, none⟩) (fun e => absurd e (Nat.succ_ne_self _)) y3; go_simp; first | done | with_reducible rfl) ?_; simp only [Act.put, List.setIfInBounds_toArray, List.set_cons_zero, List.set_cons_succ])
              iterate 1 (refine St.rv_det (by kernel_rfl) rfl (by intro w hG hH; go_simp; first | done | with_reducible rfl) ?_; simp only [Act.put, List.setIfInBounds_toArray, List.set_cons_zero, List.set_cons_succ])
              refine St.rv_rel (by kernel_rfl) rfl ⟨undef, trivial⟩ (by
                intro w hG hH
                obtain ⟨t', ht'⟩ := hG.2.1 ⟨_, H4.out.2.1⟩
                exact St.opVal_skip (exec_store_row 27 _ _ rfl w0.heap.size (tkC ⟨6, i, 0, V⟩) rfl rfl 27 _ ht' (tkC_info _) (tkC_size _ _) (tkC_all _)) ⟨trivial, St.gt_row ht', ht'.row _⟩) ?_
              rintro v -
              simp only [Act.put, List.setIfInBounds_toArray, List.set_cons_zero, List.set_cons_succ]
              iterate 2 (refine St.rv_det (by kernel_rfl) rfl (by intro w hG hH; go_simp; first | done | with_reducible rfl) ?_; simp only [Act.put, List.setIfInBounds_toArray, List.set_cons_zero, List.set_cons_succ])
              refine St.rv_nil (fun w9 hG9 hH9 => ?_)
              have hT9 : TK w9 w0.heap.size ⟨6, i, 0, V⟩ := hH9 (9, fun w => TK w w0.heap.size ⟨6, i, 0, V⟩) (List.Mem.head _)
              have K9 : KB F0 w0 w9 := H4.out.2.2.above hG9.1 (fun g e => by rw [e]; exact Nat.le_refl _)
              have H9 := Lib.hid (And.intro hT9 K9)
              clear hG9 hH9 hT9 K9 y0 y1 y2 y3
              go_wp2
              (try simp only [Exit.inBlock, Exit.then])
              refine ret_tok3 (t := ⟨6, i, 0, V⟩) rfl rfl H9.out.1 rfl ?_
              exact ⟨_, ret_eq (by rw [HE.out.1, HE.out.2.1]; push_cast; rfl), fun hok => by rw [HE.out.2.2 (by rw [← HE.out.2.1]; exact hok)], H9.out.2⟩
          · have t124 : ((c : Int) == 124) = false := by simp; omega
            have HE : Hid (O.2.1 = i + L ∧ O.2.2 = (!p) ∧ ((!p) = true → O.1 = ⟨6, i, 0, V⟩)) := Lib.hid (by
              rw [hO0]
              have hp := HP.out
              by_cases hL0 : L = 0
              · rw [if_pos hL0, if_neg h124]; rw [decide_eq_true hL0] at hp; rw [hp]; exact ⟨by simp [hL0], rfl, fun h => by cases h⟩
              · rw [if_neg hL0]; rw [decide_eq_false hL0] at hp; rw [hp]; exact ⟨rfl, rfl, fun _ => rfl⟩)
            clear hO0 h124
            have y0 : (W1).cell? ⟨w0.heap.size + 1, 0, none⟩ = some (.int .u8 (0)) := blk_cell H1.out.1 0
            have y1 : (W1).cell? ⟨w0.heap.size + 1, 1, none⟩ = some (.int .i64 (i)) := blk_cell H1.out.1 1
            have y2 : (W1).cell? ⟨w0.heap.size + 1, 2, none⟩ = some (.int .i64 (0)) := blk_cell H1.out.1 2
            have y3 : (W1).cell? ⟨w0.heap.size + 1, 3, none⟩ = some (.string ⟨#[]⟩) := blk_cell H1.out.1 3
            have f0 : (W1).frozen? ⟨w0.heap.size + 1, 0, none⟩ = false := blk_frozen H1.out.1 0
            have f2 : (W1).frozen? ⟨w0.heap.size + 1, 2, none⟩ = false := blk_frozen H1.out.1 2
            have f3 : (W1).frozen? ⟨w0.heap.size + 1, 3, none⟩ = false := blk_frozen H1.out.1 3
            obtain ⟨W2, hW2⟩ : ∃ W2, W2 = (W1).setCell ⟨w0.heap.size + 1, 0, none⟩ (.int .u8 6) := ⟨_, rfl⟩
            have H2 := Lib.hid (And.intro (show TK W2 (w0.heap.size + 1) ⟨6, i, 0, ⟨#[]⟩⟩ by rw [hW2]; exact setCell_blk (i := 0) H1.out.1 (.int .u8 6)) (And.intro (show TK W2 w0.heap.size ⟨0, 0, 0, ⟨#[]⟩⟩ by rw [hW2]; exact H1.out.2.1.kb (kb_set (W1) (w0.heap.size + 1) 0 _) (fun e => by omega)) (show KB F0 w0 W2 by rw [hW2]; exact H1.out.2.2.setCell (p := ⟨w0.heap.size + 1, 0, none⟩) (fun hh => by have h1 : w0.heap.size + 1 < w0.heap.size := hh; omega) _)))
            have HW2 := Lib.hid hW2
            clear hW2
            go_wp2_with fail
            rw [← HW2.out]
            refine (RS.out W2).mono ?_
            rintro e W3 ⟨rfl, k3⟩
            have H3 := Lib.hid (And.intro (H2.out.1.kb k3 (fun x => x)) (And.intro (H2.out.2.1.kb k3 (fun x => x)) (H2.out.2.2.trans k3)))
            clear k3 y0 y1 y2 y3 f0 f2 f3
            have z3 : W3.cell? ⟨w0.heap.size + 1, 3, none⟩ = some (.string ⟨#[]⟩) := blk_cell H3.out.1 3
            have g3 : W3.frozen? ⟨w0.heap.size + 1, 3, none⟩ = false := blk_frozen H3.out.1 3
            obtain ⟨W4, hW4⟩ : ∃ W4, W4 = (W3).setCell ⟨w0.heap.size + 1, 3, none⟩ (.string V) := ⟨_, rfl⟩
            have H4 := Lib.hid (And.intro (show TK W4 (w0.heap.size + 1) ⟨6, i, 0, V⟩ by rw [hW4]; exact setCell_blk (i := 3) H3.out.1 (.string V)) (And.intro (show TK W4 w0.heap.size ⟨0, 0, 0, ⟨#[]⟩⟩ by rw [hW4]; exact H3.out.2.1.kb (kb_set (W3) (w0.heap.size + 1) 3 _) (fun e => by omega)) (show KB F0 w0 W4 by rw [hW4]; exact H3.out.2.2.setCell (p := ⟨w0.heap.size + 1, 3, none⟩) (fun hh => by have h1 : w0.heap.size + 1 < w0.heap.size := hh; omega) _)))
            have HW4 := Lib.hid hW4
            clear hW4
            go_wp2_with fail
            rw [← HW4.out]
            clear z3 g3
            have y0 : (W4).cell? ⟨w0.heap.size + 1, 0, none⟩ = some (.int .u8 (6)) := blk_cell H4.out.1 0
            have y1 : (W4).cell? ⟨w0.heap.size + 1, 1, none⟩ = some (.int .i64 (i)) := blk_cell H4.out.1 1
            have y2 : (W4).cell? ⟨w0.heap.size + 1, 2, none⟩ = some (.int .i64 (0)) := blk_cell H4.out.1 2
            have y3 : (W4).cell? ⟨w0.heap.size + 1, 3, none⟩ = some (.string V) := blk_cell H4.out.1 3
            refine St.wp_region_rv 12 (St.GT w0.heap.size ⟨6, i, 0, V⟩) (St.kindX [(9, fun _ _ => True, fun _ _ w => TK w w0.heap.size ⟨6, i, 0, V⟩)]) (by kernel_rfl) (by kernel_rfl) St.gt_trans St.gt_refl (St.gt_kbF (kb_start _ _)) (St.kindX_mono _ (by
              intro p hp xs v a b hG
              simp only [List.mem_cons, List.not_mem_nil, or_false] at hp
              rcases hp with rfl
              · exact hG.2.2
            )) ?_
            simp only [List.take_succ_cons, List.take_zero, List.drop_succ_cons, List.drop_zero]
            iterate 1 (refine St.rv_det (by kernel_rfl) rfl (by intro w hG hH; have c0 := hG.1.cell (p := ⟨w0.heap.size + 1, 0, none⟩) (fun e => absurd e (Nat.succ_ne_self _)) y0; have c1 := hG.1.cell (p := ⟨w0.heap.size + 1, 1, none⟩) (fun e => absurd e (Nat.succ_ne_self _)) y1; have c2 := hG.1.cell (p := ⟨w0.heap.size + 1, 2, none⟩) (fun e => absurd e (Nat.succ_ne_self _)) y2; have c3 := hG.1.cell (p := ⟨w0.heap.size + 1, 3, none⟩) (fun e => absurd e (Nat.succ_ne_self _)) y3; go_simp; first | done | with_reducible rfl) ?_; simp only [Act.put, List.setIfInBounds_toArray, List.set_cons_zero, List.set_cons_succ])
            iterate 1 (refine St.rv_det (by kernel_rfl) rfl (by intro w hG hH; go_simp; first | done | with_reducible rfl) ?_; simp only [Act.put, List.setIfInBounds_toArray, List.set_cons_zero, List.set_cons_succ])
            iterate 6 (refine St.rv_det (by kernel_rfl) rfl (by intro w hG hH; have c3 := hG.1.cell (p := ⟨w0.heap.size + 1, 3, none⟩) (fun e => absurd e (Nat.succ_ne_self _)) y3; go_simp; first | done | with_reducible rfl) ?_; simp only [Act.put, List.setIfInBounds_toArray, List.set_cons_zero, List.set_cons_succ])
            iterate 1 (refine St.rv_det (by kernel_rfl) rfl (by intro w hG hH; go_simp; first | done | with_reducible rfl) ?_; simp only [Act.put, List.setIfInBounds_toArray, List.set_cons_zero, List.set_cons_succ])
            refine St.rv_rel (by kernel_rfl) rfl ⟨undef, trivial⟩ (by
              intro w hG hH
              obtain ⟨t', ht'⟩ := hG.2.1 ⟨_, H4.out.2.1⟩
              exact St.opVal_skip (exec_store_row 27 _ _ rfl w0.heap.size (tkC ⟨6, i, 0, V⟩) rfl rfl 27 _ ht' (tkC_info _) (tkC_size _ _) (tkC_all _)) ⟨trivial, St.gt_row ht', ht'.row _⟩) ?_
            rintro v -
            simp only [Act.put, List.setIfInBounds_toArray, List.set_cons_zero, List.set_cons_succ]
            iterate 2 (refine St.rv_det (by kernel_rfl) rfl (by intro w hG hH; go_simp; first | done | with_reducible rfl) ?_; simp only [Act.put, List.setIfInBounds_toArray, List.set_cons_zero, List.set_cons_succ])
            refine St.rv_nil (fun w9 hG9 hH9 => ?_)
            have hT9 : TK w9 w0.heap.size ⟨6, i, 0, V⟩ := hH9 (9, fun w => TK w w0.heap.size ⟨6, i, 0, V⟩) (List.Mem.head _)
            have K9 : KB F0 w0 w9 := H4.out.2.2.above hG9.1 (fun g e => by rw [e]; exact Nat.le_refl _)
            have H9 := Lib.hid (And.intro hT9 K9)
            clear hG9 hH9 hT9 K9 y0 y1 y2 y3
            go_wp2
            (try simp only [Exit.inBlock, Exit.then])
            refine ret_tok3 (t := ⟨6, i, 0, V⟩) rfl rfl H9.out.1 rfl ?_
            exact ⟨_, ret_eq (by rw [HE.out.1, HE.out.2.1]; push_cast; rfl), fun hok => by rw [HE.out.2.2 (by rw [← HE.out.2.1]; exact hok)], H9.out.2⟩

end Go.Proofs.YtcbifoimfhfccaaGreatDoor

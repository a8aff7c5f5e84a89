/- loanwordref09.Read. -/
import Derived.Test.YtpigppghcghpbaaGreatDoorPlZd
namespace Go.Proofs.YtpigppghcghpbaaGreatDoor
open Go.RowKit

def strLen (v : Value) : Nat := match v with | .string s => s.size | _ => 0
set_option maxRecDepth 100000 in
set_option maxHeartbeats 32000000 in
theorem rread_any (s : ByteArray) (hs : s.size ≤ 1000000) (w : World) : Calls Tryz.prog 28 #[.string s] w fun e w' => RdEnd w (rdL s.data.toList) e w' := by
  obtain ⟨w0, rfl⟩ : ∃ w0, w0 = w := ⟨_, rfl⟩
  obtain ⟨O, hO⟩ : ∃ O, O = rdL s.data.toList := ⟨_, rfl⟩
  rw [← hO]
  rw [← rd_rr] at hO
  obtain ⟨hk, hb1, hb2⟩ := new2 w0 #[.int .i64 0, .slice none 0 0] #[.int .i64 0, .slice none 0 0] 26 26
  obtain ⟨W, hW⟩ : ∃ W, W = ((w0.alloc (.cells #[.int .i64 0, .slice none 0 0] 26)).alloc (.cells #[.int .i64 0, .slice none 0 0] 26)) := ⟨_, rfl⟩
  rw [← hW] at hk hb1 hb2
  have HB := Lib.hid (And.intro hk (And.intro hb1 hb2))
  have HW := Lib.hid hW
  have q0 : W.cell? ⟨w0.heap.size, 0, none⟩ = some (.int .i64 0) := blk_cell hb1 0
  have q1 : W.cell? ⟨w0.heap.size, 1, none⟩ = some (.slice none 0 0) := blk_cell hb1 1
  have p0 : W.cell? ⟨w0.heap.size + 1, 0, none⟩ = some (.int .i64 0) := blk_cell hb2 0
  have p1 : W.cell? ⟨w0.heap.size + 1, 1, none⟩ = some (.slice none 0 0) := blk_cell hb2 1
  rw [hW] at q0 q1 p0 p1
  clear hk hb1 hb2 hW
  by_cases h0 : s = ⟨#[]⟩
  case pos =>
    as_aux_lemma =>
    subst h0
    have HE : Hid (O = none) := Lib.hid (by rw [hO]; rfl)
    clear hO
    go_enter Tryz.func28, Tryz.ntmps28
    go_upto_region 3 with fail
    rw [← HW.out]
    clear q0 q1 p0 p1
    have q0 : W.cell? ⟨w0.heap.size, 0, none⟩ = some (.int .i64 0) := blk_cell HB.out.2.1 0
    have q1 : W.cell? ⟨w0.heap.size, 1, none⟩ = some (.slice none 0 0) := blk_cell HB.out.2.1 1
    have p0 : W.cell? ⟨w0.heap.size + 1, 0, none⟩ = some (.int .i64 0) := blk_cell HB.out.2.2 0
    have p1 : W.cell? ⟨w0.heap.size + 1, 1, none⟩ = some (.slice none 0 0) := blk_cell HB.out.2.2 1
    have f0 := blk_frozen (HB.out.2.1) 0
    have f1 := blk_frozen (HB.out.2.1) 1
    go_wp2_with fail
    refine ret_pl2 (X := w0.heap.size) rfl rfl rfl (setCell_blk (i := 1) (setCell_blk (i := 0) HB.out.2.1 (.int .i64 0)) (.slice none 0 0)) rfl (rdEnd_no HE.out ?_)
    exact kb_new (kb_new HB.out.1 (Nat.le_refl _) 0 _) (Nat.le_refl _) 1 _
  have ht0 : (s.toList == []) = false := by rw [toList_beqP]; exact decide_eq_false h0
  have hs0 : 0 < s.size := by
    rcases Nat.eq_zero_or_pos s.size with h | h
    · refine absurd (bytes_of (s := s) (l := []) ?_) h0
      exact List.eq_nil_of_length_eq_zero (by rw [Array.length_toList]; exact h)
    · exact h
  have hb := byteAt_eq s 0 hs0
  obtain ⟨u, hdr, hu⟩ := drop_byte s hs0
  rw [List.drop_zero] at hdr
  obtain ⟨c, hc⟩ : ∃ c, c = byteAt s 0 := ⟨_, rfl⟩
  rw [← hc] at hb hu
  clear h0 hc
  by_cases h95 : c = 95
  case neg =>
    as_aux_lemma =>
    have t1 : ((c : Int) == 95) = false := by simp; omega
    have HE : Hid (O = none) := Lib.hid (by
      rw [hO, rd_rr, hdr]
      refine rdL_no (fun r e => h95 ?_)
      rw [← hu, (List.cons.inj e).1]; rfl)
    clear hO h95 hdr hu
    go_enter Tryz.func28, Tryz.ntmps28
    go_upto_region 3 with fail
    rw [← HW.out]
    clear q0 q1 p0 p1
    have q0 : W.cell? ⟨w0.heap.size, 0, none⟩ = some (.int .i64 0) := blk_cell HB.out.2.1 0
    have q1 : W.cell? ⟨w0.heap.size, 1, none⟩ = some (.slice none 0 0) := blk_cell HB.out.2.1 1
    have p0 : W.cell? ⟨w0.heap.size + 1, 0, none⟩ = some (.int .i64 0) := blk_cell HB.out.2.2 0
    have p1 : W.cell? ⟨w0.heap.size + 1, 1, none⟩ = some (.slice none 0 0) := blk_cell HB.out.2.2 1
    have f0 := blk_frozen (HB.out.2.1) 0
    have f1 := blk_frozen (HB.out.2.1) 1
    go_wp2_with fail
    refine ret_pl2 (X := w0.heap.size) rfl rfl rfl (setCell_blk (i := 1) (setCell_blk (i := 0) HB.out.2.1 (.int .i64 0)) (.slice none 0 0)) rfl (rdEnd_no HE.out ?_)
    exact kb_new (kb_new HB.out.1 (Nat.le_refl _) 0 _) (Nat.le_refl _) 1 _
  subst h95
  obtain ⟨T, hT⟩ : ∃ T, T = s.extract 1 s.size := ⟨_, rfl⟩
  have hTl : T.data.toList = s.data.toList.drop 1 := by rw [hT]; exact ext_drop s 1
  have hTs : T.size = s.size - 1 := by rw [hT]; exact ext_size s (by omega)
  have DG := Lib.hid (fun (V : World) => digits_any T (by omega) V)
  have hO2 : O = if (digS T.data.toList).2 = 0 then none else (rrF ((s.data.toList.drop 1).length + 1) ((s.data.toList.drop 1).drop (digS T.data.toList).2) []).map fun ks => ⟨(digS T.data.toList).1, ks⟩ := by
    have hu95 : u = 95 := UInt8.toNat_inj.1 (by rw [hu]; rfl)
    rw [hO, hTl, hdr, hu95]
    rfl
  have hdl := digS_le T.data.toList
  obtain ⟨v, hv⟩ : ∃ v, v = (digS T.data.toList).1 := ⟨_, rfl⟩
  obtain ⟨n, hn⟩ : ∃ n, n = (digS T.data.toList).2 := ⟨_, rfl⟩
  rw [← hv, ← hn] at DG hO2 hdl
  have hTz : T.data.toList.length = T.size := Array.length_toList
  have hT' := hT.symm
  have HS := Lib.hid hs
  have HO2 := Lib.hid hO2
  have hns : n + 1 ≤ s.size := by omega
  have hs0i : (1 : Int) ≤ (s.size : Int) := by omega
  clear hO hO2 hdr hu hv hn hTl hTs hdl hTz hT
  go_enter Tryz.func28, Tryz.ntmps28
  go_upto_region 4 with fail
  rw [← HW.out]
  clear q0 q1 p0 p1
  go_wp2_with fail
  refine (DG.out _).mono ?_
  rintro e w1 ⟨rfl, rfl⟩
  by_cases hn0 : n = 0
  case pos =>
    as_aux_lemma =>
    subst hn0
    have HE : Hid (O = none) := Lib.hid (by rw [HO2.out, if_pos rfl])
    go_upto_region 6 with fail
    have q0 : w1.cell? ⟨w0.heap.size, 0, none⟩ = some (.int .i64 0) := blk_cell HB.out.2.1 0
    have q1 : w1.cell? ⟨w0.heap.size, 1, none⟩ = some (.slice none 0 0) := blk_cell HB.out.2.1 1
    have p0 : w1.cell? ⟨w0.heap.size + 1, 0, none⟩ = some (.int .i64 0) := blk_cell HB.out.2.2 0
    have p1 : w1.cell? ⟨w0.heap.size + 1, 1, none⟩ = some (.slice none 0 0) := blk_cell HB.out.2.2 1
    have f0 := blk_frozen (HB.out.2.1) 0
    have f1 := blk_frozen (HB.out.2.1) 1
    go_wp2_with fail
    refine ret_pl2 (X := w0.heap.size) rfl rfl rfl (setCell_blk (i := 1) (setCell_blk (i := 0) HB.out.2.1 (.int .i64 0)) (.slice none 0 0)) rfl (rdEnd_no HE.out ?_)
    exact kb_new (kb_new HB.out.1 (Nat.le_refl _) 0 _) (Nat.le_refl _) 1 _
  have t1 : ((n : Int) == 0) = false := by simp; omega
  have HO3 : Hid (O = (rrF ((s.data.toList.drop 1).length + 1) ((s.data.toList.drop 1).drop n) []).map fun ks => (⟨(v : Int), ks⟩ : Pl)) := Lib.hid (by rw [HO2.out, if_neg hn0])
  obtain ⟨m, hm⟩ : ∃ m, m = n + 1 := ⟨_, rfl⟩
  have w1m : IntKind.i64.wrap (1 + (n : Int)) = (m : Int) := by rw [w64 (by omega) (by have := HS.out; omega)]; omega
  have hmi : (m : Int) ≤ (s.size : Int) := by omega
  have hmn : m ≤ s.size := by omega
  obtain ⟨S0, hS0⟩ : ∃ S0, S0 = s.extract m s.size := ⟨_, rfl⟩
  have HS0 : Hid (S0.data.toList = (s.data.toList.drop 1).drop n ∧ S0.size ≤ s.size ∧ S0.size < (s.data.toList.drop 1).length + 1) := Lib.hid (by
    have h1 := ext_size s hmn
    refine ⟨?_, by rw [hS0, h1]; omega, ?_⟩
    · rw [hS0, ext_drop, List.drop_drop, hm, Nat.add_comm]
    · rw [hS0, h1, List.length_drop, Array.length_toList]; show s.size - m < s.size - 1 + 1; omega)
  have hS0' := hS0.symm
  clear hn0 hm hS0 hT' hs0i HO2 hns
  go_upto_region 9 with fail
  obtain ⟨W3, hW3⟩ : ∃ W3, W3 = w1.alloc (.cells #[.int .i64 (v : Nat), .slice none 0 0] 26) := ⟨_, rfl⟩
  have kx := (KB.refl F0 w1).alloc (.cells #[.int .i64 (v : Nat), .slice none 0 0] 26)
  have hbx := alloc_new w1 (.cells #[.int .i64 (v : Nat), .slice none 0 0] 26)
  rw [← hW3] at kx hbx
  have H1 := Lib.hid (And.intro (HB.out.1.trans kx) (And.intro (kx.heap (fun x => x) HB.out.2.1) (And.intro (kx.heap (fun x => x) HB.out.2.2) (And.intro hbx (And.intro (heap_lt hbx) (And.intro (heap_lt HB.out.2.2) HB.out.1.size))))))
  rw [← hW3]
  clear hW3 kx hbx w1m hmi hmn hS0' t1 hb ht0 hs0
  go_loopw [0] (fun sv wr => ∃ (S : ByteArray) (xs : List Int) (vv : Value) (f : Nat), sv = .string S ∧ S.size ≤ 1000000 ∧ xs.length ≤ 8 ∧ Hid (RdSt W3 wr w1.heap.size v xs vv ∧ S.size < f ∧ O = (rrF f S.data.toList xs).map fun ks => (⟨(v : Int), ks⟩ : Pl))) (fun sv _ => strLen sv)
  case atStart => exact ⟨S0, [], _, _, rfl, by have := HS0.out.2.1; have := HS.out; omega, Nat.zero_le _, Lib.hid ⟨⟨KB.refl _ _, H1.out.2.2.2.1, ownI_nil _ _⟩, HS0.out.2.2, by rw [HS0.out.1]; exact HO3.out⟩⟩
  case round =>
    obtain ⟨S, xs, vv, f, rfl, hSz, hxl, hst⟩ := hrel
    have q := hst.out.1.kb.heap (b := w0.heap.size) (fun e => by have := H1.out.2.2.2.2.2.1; omega) H1.out.2.1
    have pz := hst.out.1.kb.heap (b := w0.heap.size + 1) (fun e => by have := H1.out.2.2.2.2.2.1; omega) H1.out.2.2.1
    have HQ := Lib.hid (And.intro q pz)
    have hb7 := hst.out.1.blk
    obtain ⟨la, lc, rfl⟩ := own_lenP hst.out.1.own
    have q0 : wr.cell? ⟨w0.heap.size, 0, none⟩ = some (.int .i64 0) := blk_cell q 0
    have q1 : wr.cell? ⟨w0.heap.size, 1, none⟩ = some (.slice none 0 0) := blk_cell q 1
    have p0 : wr.cell? ⟨w0.heap.size + 1, 0, none⟩ = some (.int .i64 0) := blk_cell pz 0
    have p1 : wr.cell? ⟨w0.heap.size + 1, 1, none⟩ = some (.slice none 0 0) := blk_cell pz 1
    have f0 := blk_frozen (q) 0
    have f1 := blk_frozen (q) 1
    have x0 : wr.cell? ⟨w1.heap.size, 0, none⟩ = some (.int .i64 (v : Nat)) := blk_cell hb7 0
    have x1 : wr.cell? ⟨w1.heap.size, 1, none⟩ = some (.slice la xs.length lc) := blk_cell hb7 1
    have g1 := blk_frozen hb7 1
    have HB7 := Lib.hid hb7
    clear q pz hb7
    by_cases hS : S = ⟨#[]⟩
    · as_aux_lemma =>
      subst hS
      have HE : Hid (O = some ⟨v, xs⟩) := Lib.hid (by
        obtain ⟨f', hf⟩ : ∃ f', f = f' + 1 := ⟨f - 1, by have := hst.out.2.1; omega⟩
        rw [hst.out.2.2, hf]; rfl)
      go_wp2_with fail
      refine ret_pl2 (X := w0.heap.size) rfl rfl rfl (setCell_blk (i := 1) (setCell_blk (i := 0) HQ.out.1 (.int .i64 (v : Nat))) (.slice la xs.length lc)) rfl ⟨.slice la xs.length lc, ?_, ?_, ?_⟩
      · rw [HE.out]; rfl
      · rw [HE.out]
        have ho := own_base hst.out.1.own H1.out.1.size
        exact own_kb ho ((kb_set wr w0.heap.size 0 _).trans (kb_set _ w0.heap.size 1 _)) (fun g e e2 => by have := (hst.out.1.own.lt g e).1; have := H1.out.2.2.2.2; omega)
      · exact kb_new (kb_new (kb_over H1.out.1 hst.out.1.kb H1.out.2.2.2.2.2.2) (Nat.le_refl _) 0 _) (Nat.le_refl _) 1 _
    have ht0 : (S.toList == []) = false := by rw [toList_beqP]; exact decide_eq_false hS
    have hs0 : 0 < S.size := by
      rcases Nat.eq_zero_or_pos S.size with h | h
      · refine absurd (bytes_of (s := S) (l := []) ?_) hS
        exact List.eq_nil_of_length_eq_zero (by rw [Array.length_toList]; exact h)
      · exact h
    have hb := byteAt_eq S 0 hs0
    obtain ⟨u, hdr, hu⟩ := drop_byte S hs0
    rw [List.drop_zero] at hdr
    obtain ⟨c, hc⟩ : ∃ c, c = byteAt S 0 := ⟨_, rfl⟩
    rw [← hc] at hb hu
    obtain ⟨f', hf⟩ : ∃ f', f = f' + 1 := ⟨f - 1, by have := hst.out.2.1; omega⟩
    obtain ⟨t, htt⟩ : ∃ t, t = S.data.toList.drop 1 := ⟨_, rfl⟩
    have htl : t.length = S.size - 1 := by rw [htt, List.length_drop, Array.length_toList]; rfl
    have hO4 : O = (if c ≠ 46 ∨ t = [] ∨ 8 ≤ xs.length then none else if hd0 t = 42 then rrF f' (t.drop 1) (xs ++ [-1]) else if (digS t).2 = 0 then none else rrF f' (t.drop (digS t).2) (xs ++ [((digS t).1 : Int)])).map fun ks => (⟨(v : Int), ks⟩ : Pl) := by
      rw [hst.out.2.2, hf, hdr, Nat.zero_add, ← htt, rrF]
      have e : (u ≠ 46) = (c ≠ 46) := by
        rw [← hu, eq_iff_iff]
        exact not_congr ⟨fun h => by rw [h]; rfl, fun h => UInt8.toNat_inj.1 (by rw [h]; rfl)⟩
      simp only [e]
    have HO4 := Lib.hid hO4
    have Hf := Lib.hid (show S.size ≤ f' by have := hst.out.2.1; omega)
    have HTL := Lib.hid (And.intro htl htt)
    clear hO4 hf hdr hu hc hS htl htt
    by_cases h46 : c = 46
    case neg =>
      as_aux_lemma =>
      have t1 : ((c : Int) == 46) = false := by simp; omega
      have t1b : ((c : Int) != 46) = true := by simp; omega
      have HE : Hid (O = none) := Lib.hid (by rw [HO4.out, if_pos (Or.inl h46)]; rfl)
      clear h46
      go_wp2_with fail
      refine ret_pl2 (X := w0.heap.size) rfl rfl rfl (setCell_blk (i := 1) (setCell_blk (i := 0) HQ.out.1 (.int .i64 0)) (.slice none 0 0)) rfl (rdEnd_no HE.out ?_)
      exact kb_new (kb_new (kb_over H1.out.1 hst.out.1.kb H1.out.2.2.2.2.2.2) (Nat.le_refl _) 0 _) (Nat.le_refl _) 1 _
    subst h46
    by_cases h2 : S.size < 2
    case pos =>
      as_aux_lemma =>
      have t2 : decide ((S.size : Int) < 2) = true := decide_eq_true (by omega)
      have t2n : decide (S.size < 2) = true := decide_eq_true h2
      have HE : Hid (O = none) := Lib.hid (by rw [HO4.out, if_pos (Or.inr (Or.inl (List.eq_nil_of_length_eq_zero (by have := HTL.out.1; omega))))]; rfl)
      clear h2
      go_wp2_with fail
      refine ret_pl2 (X := w0.heap.size) rfl rfl rfl (setCell_blk (i := 1) (setCell_blk (i := 0) HQ.out.1 (.int .i64 0)) (.slice none 0 0)) rfl (rdEnd_no HE.out ?_)
      exact kb_new (kb_new (kb_over H1.out.1 hst.out.1.kb H1.out.2.2.2.2.2.2) (Nat.le_refl _) 0 _) (Nat.le_refl _) 1 _
    have t2 : decide ((S.size : Int) < 2) = false := decide_eq_false (by omega)
    have t2n : decide (S.size < 2) = false := decide_eq_false h2
    by_cases h8 : 8 ≤ xs.length
    case pos =>
      as_aux_lemma =>
      have t3 : decide ((8 : Int) ≤ (xs.length : Int)) = true := decide_eq_true (by omega)
      have t3n : decide (8 ≤ xs.length) = true := decide_eq_true h8
      have HE : Hid (O = none) := Lib.hid (by rw [HO4.out, if_pos (Or.inr (Or.inr h8))]; rfl)
      clear h8
      go_wp2_with fail
      refine ret_pl2 (X := w0.heap.size) rfl rfl rfl (setCell_blk (i := 1) (setCell_blk (i := 0) HQ.out.1 (.int .i64 0)) (.slice none 0 0)) rfl (rdEnd_no HE.out ?_)
      exact kb_new (kb_new (kb_over H1.out.1 hst.out.1.kb H1.out.2.2.2.2.2.2) (Nat.le_refl _) 0 _) (Nat.le_refl _) 1 _
    have t3 : decide ((8 : Int) ≤ (xs.length : Int)) = false := decide_eq_false (by omega)
    have t3n : decide (8 ≤ xs.length) = false := decide_eq_false h8
    have h1s : 1 < S.size := by omega
    have h2i : (2 : Int) ≤ (S.size : Int) := by omega
    have h1i : (1 : Int) ≤ (S.size : Int) := by omega
    have h1j : (1 : Int) < (S.size : Int) := by omega
    have hb1 := byteAt_eq S 1 h1s
    have hh : hd0 t = byteAt S 1 := by
      obtain ⟨u2, hd2, hu2⟩ := drop_byte S h1s
      rw [HTL.out.2, hd2, ← hu2]; rfl
    obtain ⟨c1, hc1⟩ : ∃ c1, c1 = byteAt S 1 := ⟨_, rfl⟩
    rw [← hc1] at hb1 hh
    have HO5 : Hid (O = (if c1 = 42 then rrF f' (t.drop 1) (xs ++ [-1]) else if (digS t).2 = 0 then none else rrF f' (t.drop (digS t).2) (xs ++ [((digS t).1 : Int)])).map fun ks => (⟨(v : Int), ks⟩ : Pl)) := Lib.hid (by
      rw [HO4.out, if_neg, hh]
      rintro (h | h | h)
      · exact h rfl
      · have := HTL.out.1; rw [h] at this; simp at this; omega
      · exact h8 h)
    have hx7 : xs.length < 8 := by omega
    clear hh hc1 h8 h2 HO4
    by_cases h42 : c1 = 42
    · as_aux_lemma =>
      subst h42
      obtain ⟨S2, hS2⟩ : ∃ S2, S2 = S.extract 2 S.size := ⟨_, rfl⟩
      have HN : Hid (strLen (.string S2) < strLen (.string S) ∧ S2.size ≤ 1000000 ∧ S2.size < f' ∧ O = (rrF f' S2.data.toList (xs ++ [-1])).map fun ks => (⟨(v : Int), ks⟩ : Pl)) := Lib.hid (by
        have h1 : S2.size = S.size - 2 := by rw [hS2]; exact ext_size S (by omega)
        have h3 := Hf.out
        refine ⟨by show S2.size < S.size; omega, by omega, by omega, ?_⟩
        rw [HO5.out, if_pos rfl, hS2, ext_drop, HTL.out.2, List.drop_drop])
      have hS2' := hS2.symm
      clear hS2
      go_wp2_with (at_builtin; refine Stopped.out ?_)
      refine ⟨?_⟩
      have ho := hst.out.1.own.kbF ((KB.refl F0 wr).alloc (.cells #[.int .i64 (-1)] 56))
      refine app1 24 56 W3.heap.size (.int .i64 (-1)) Tryz.infoStep Tryz.underlying24 (by decide) ho rfl rfl rfl rfl (blk_cell (alloc_new _ _) 0) rfl (by unfold maxLen; omega) (by omega) (by have := hst.out.1.kb.size; simp; omega) ?_
      intro v' w' hown hgr
      have hps := hst.out.1.push H1.out.2.2.2.2.1 hown hgr
      obtain ⟨ma, mc, rfl⟩ := own_lenP hown
      have hb2 : w'.heap[w1.heap.size]? = some (.cells #[.int .i64 (v : Nat), .slice la xs.length lc] 26 (0, 0)) := by
        have hlt := heap_lt HB7.out
        rw [hgr.block _ (by simp; omega) (fun e => hst.out.1.ne H1.out.2.2.2.2.1 _ e.symm rfl)]
        exact ((KB.refl F0 wr).alloc _).heap (fun x => x) HB7.out
      clear q0 q1 p0 p1 f0 f1 x0 x1 g1
      have x1 : w'.cell? ⟨w1.heap.size, 1, none⟩ = some (.slice la xs.length lc) := blk_cell hb2 1
      have g1 := blk_frozen hb2 1
      have HPS := Lib.hid hps
      clear hown hgr hps hb2 ho
      go_wp2_with fail
      refine ⟨⟨S2, xs ++ [(-1)], _, f', rfl, HN.out.2.1, by simp; omega, Lib.hid ⟨HPS.out, HN.out.2.2.1, HN.out.2.2.2⟩⟩, HN.out.1⟩
    have t4 : ((c1 : Int) == 42) = false := by simp; omega
    obtain ⟨T1, hT1⟩ : ∃ T1, T1 = S.extract 1 S.size := ⟨_, rfl⟩
    have hT1l : T1.data.toList = t := by rw [hT1, ext_drop, ← HTL.out.2]
    have hT1s : T1.size = S.size - 1 := by rw [hT1]; exact ext_size S (by omega)
    have DG1 := Lib.hid (fun (V : World) => digits_any T1 (by omega) V)
    rw [hT1l] at DG1
    have hdl := digS_le t
    have HO6 : Hid (O = (if (digS t).2 = 0 then none else rrF f' (t.drop (digS t).2) (xs ++ [((digS t).1 : Int)])).map fun ks => (⟨(v : Int), ks⟩ : Pl)) := Lib.hid (by rw [HO5.out, if_neg h42])
    obtain ⟨v1, hv1⟩ : ∃ v1, v1 = (digS t).1 := ⟨_, rfl⟩
    obtain ⟨n1, hn1⟩ : ∃ n1, n1 = (digS t).2 := ⟨_, rfl⟩
    rw [← hv1, ← hn1] at DG1 HO6 hdl
    have hns : n1 + 1 ≤ S.size := by have := HTL.out.1; omega
    have hT1' := hT1.symm
    clear hv1 hn1 hT1 hT1l hT1s h42 HO5 hdl
    go_upto_region 15 with fail
    go_wp2_with fail
    refine (DG1.out _).mono ?_
    rintro e wd ⟨rfl, hwd⟩
    have hwd2 := hwd.symm
    subst hwd2
    clear hwd
    by_cases hn0 : n1 = 0
    · as_aux_lemma =>
      subst hn0
      have HE : Hid (O = none) := Lib.hid (by rw [HO6.out, if_pos rfl]; rfl)
      clear hns
      go_wp2_with fail
      refine ret_pl2 (X := w0.heap.size) rfl rfl rfl (setCell_blk (i := 1) (setCell_blk (i := 0) HQ.out.1 (.int .i64 0)) (.slice none 0 0)) rfl (rdEnd_no HE.out ?_)
      exact kb_new (kb_new (kb_over H1.out.1 hst.out.1.kb H1.out.2.2.2.2.2.2) (Nat.le_refl _) 0 _) (Nat.le_refl _) 1 _
    · as_aux_lemma =>
      have t5 : ((n1 : Int) == 0) = false := by simp; omega
      obtain ⟨m1, hm1⟩ : ∃ m1, m1 = n1 + 1 := ⟨_, rfl⟩
      have wm : IntKind.i64.wrap (1 + (n1 : Int)) = (m1 : Int) := by rw [w64 (by omega) (by omega)]; omega
      have hmi : (m1 : Int) ≤ (S.size : Int) := by omega
      have hmn : m1 ≤ S.size := by omega
      obtain ⟨S2, hS2⟩ : ∃ S2, S2 = S.extract m1 S.size := ⟨_, rfl⟩
      have HN : Hid (strLen (.string S2) < strLen (.string S) ∧ S2.size ≤ 1000000 ∧ S2.size < f' ∧ O = (rrF f' S2.data.toList (xs ++ [(v1 : Int)])).map fun ks => (⟨(v : Int), ks⟩ : Pl)) := Lib.hid (by
        have h1 : S2.size = S.size - m1 := by rw [hS2]; exact ext_size S hmn
        have h3 := Hf.out
        refine ⟨by show S2.size < S.size; omega, by omega, by omega, ?_⟩
        rw [HO6.out, if_neg hn0, hS2, ext_drop, HTL.out.2, List.drop_drop, hm1, Nat.add_comm])
      have hS2' := hS2.symm
      clear hS2 hm1 hn0 hns
      go_wp2_with (at_builtin; refine Stopped.out ?_)
      refine ⟨?_⟩
      have ho := hst.out.1.own.kbF ((KB.refl F0 wr).alloc (.cells #[.int .i64 (v1 : Nat)] 56))
      refine app1 24 56 W3.heap.size (.int .i64 (v1 : Nat)) Tryz.infoStep Tryz.underlying24 (by decide) ho rfl rfl rfl rfl (blk_cell (alloc_new _ _) 0) rfl (by unfold maxLen; omega) (by omega) (by have := hst.out.1.kb.size; simp; omega) ?_
      intro v' w' hown hgr
      have hps := hst.out.1.push H1.out.2.2.2.2.1 hown hgr
      obtain ⟨ma, mc, rfl⟩ := own_lenP hown
      have hb2 : w'.heap[w1.heap.size]? = some (.cells #[.int .i64 (v : Nat), .slice la xs.length lc] 26 (0, 0)) := by
        have hlt := heap_lt HB7.out
        rw [hgr.block _ (by simp; omega) (fun e => hst.out.1.ne H1.out.2.2.2.2.1 _ e.symm rfl)]
        exact ((KB.refl F0 wr).alloc _).heap (fun x => x) HB7.out
      clear q0 q1 p0 p1 f0 f1 x0 x1 g1
      have x1 : w'.cell? ⟨w1.heap.size, 1, none⟩ = some (.slice la xs.length lc) := blk_cell hb2 1
      have g1 := blk_frozen hb2 1
      have HPS := Lib.hid hps
      clear hown hgr hps hb2 ho
      go_wp2_with fail
      refine ⟨⟨S2, xs ++ [((v1 : Nat) : Int)], _, f', rfl, HN.out.2.1, by simp; omega, Lib.hid ⟨HPS.out, HN.out.2.2.1, HN.out.2.2.2⟩⟩, HN.out.1⟩
end Go.Proofs.YtpigppghcghpbaaGreatDoor

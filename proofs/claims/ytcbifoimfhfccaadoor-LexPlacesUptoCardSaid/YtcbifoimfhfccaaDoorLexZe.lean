/- joined: lines put together. -/
import Derived.Test.YtcbifoimfhfccaaDoorLexZd
import Derived.Lib.BufferRead
namespace Go.Proofs.YtcbifoimfhfccaaDoor
open Go.RowKit

theorem sumL_take_succ {L : List ByteArray} {k : Nat} (h : k < L.length) : sumL (L.take (k + 1)) = sumL (L.take k) + ((L.getD k ByteArray.empty).size + 1) := by
  rw [List.take_succ_eq_append_getElem h, sumL_app, List.getD_eq_getElem?_getD, List.getElem?_eq_getElem h]
  rfl
theorem sumL_take_le (L : List ByteArray) : ∀ k, sumL (L.take k) ≤ sumL L := by
  induction L with
  | nil => intro k; simp [sumL]
  | cons x L ih =>
    intro k
    cases k with
    | zero => exact Nat.zero_le _
    | succ k => rw [List.take_succ_cons]; unfold sumL; have := ih k; omega
theorem joinL_succ {L : List ByteArray} {k : Nat} (h : k < L.length) : joinL (L.take (k + 1)) = (if 0 < k then joinL (L.take k) ++ nlB else joinL (L.take k)) ++ L.getD k ByteArray.empty := by
  have hg : L.getD k ByteArray.empty = L[k] := by rw [List.getD_eq_getElem?_getD, List.getElem?_eq_getElem h]; rfl
  rw [List.take_succ_eq_append_getElem h, joinL_last, hg]
  cases k with
  | zero => rfl
  | succ m =>
    rw [if_pos (Nat.succ_pos m), List.take_succ_eq_append_getElem (by omega : m < L.length), joinL_last, catL_app, ByteArray.append_assoc]
    rw [ByteArray.append_assoc, ByteArray.append_assoc, ByteArray.append_assoc]
theorem conv_own {w : World} {B : Nat} {v : Value} {s : ByteArray} (h : w.ownsRow B 5 1 v s.size (Lib.strCells s)) : (convert 70 9 v).run Tryd.prog w = .ok (.string s) w := by
  obtain ⟨h1, h2⟩ := h
  rcases h2 with ⟨rfl, hn⟩ | ⟨g, cap, cur, rfl, hb, hh, hr⟩
  · have : s = ⟨#[]⟩ := by
      apply ByteArray.ext
      apply Array.eq_empty_of_size_eq_zero
      exact hn
    rw [this]
    exact Lib.run_convert_nil_bytes w 70 9 5 0 Tryd.underlying70 Tryd.underlying5 Tryd.underlying9
  · have hl : s.data.toList.length = s.size := by simp
    have hc := run_convert_bytes_back w 70 9 5 ⟨g, 0, none⟩ cap s.data.toList Tryd.underlying70 Tryd.underlying5 Tryd.underlying9 (fun j hj => by
      obtain ⟨hn, hm, hcs, ht⟩ := hr
      rw [show ((⟨g, 0, none⟩ : Addr).add j) = ⟨g, j, none⟩ by unfold Addr.add; split <;> simp_all]
      have e : w.cell? ⟨g, j, none⟩ = (Lib.strCells s)[j]? := by
        rw [blk_cell hh, ← ht, List.getElem?_take_of_lt (by omega)]
        exact (Array.getElem?_toList).symm
      rw [e]
      unfold Lib.strCells
      rw [List.getElem?_map, List.getElem?_eq_getElem hj]
      rfl)
    rw [hl] at hc
    rw [hc]
set_option maxRecDepth 100000 in
set_option maxHeartbeats 8000000 in
theorem joined_any (L : List ByteArray) (g : Nat) (w : World) (h : SL w g L) (hb : sumL L ≤ 1000000) (hl : L.length ≤ 1000000) :
    Calls Tryd.prog 22 #[.slice (some ⟨g, 0, none⟩) L.length L.length] w fun e w' => e = .returned (.string (joinL L)) ∧ KB F0 w w' := by
  obtain ⟨w0, rfl⟩ : ∃ w0, w0 = w := ⟨_, rfl⟩
  obtain ⟨O, hO⟩ : ∃ O, O = joinL L := ⟨_, rfl⟩
  rw [← hO]
  obtain ⟨N, hN⟩ : ∃ N, N = L.length := ⟨_, rfl⟩
  rw [← hN] at hl ⊢
  have H := Lib.hid (And.intro h (And.intro hO hN))
  have HB := Lib.hid hb
  clear h hb hO hN
  go_enter Tryd.func22, Tryd.ntmps22
  go_wp2_with fail
  go_loopw [3, 4] (fun lv kv wr => ∃ k : Nat, k ≤ N ∧ kv = .int .i64 (k : Nat) ∧ Hid (wr.ownsRow w0.heap.size 5 1 lv (joinL (L.take k)).size (Lib.strCells (joinL (L.take k))) ∧ KB F0 w0 wr ∧ (joinL (L.take k)).size ≤ sumL (L.take k))) (fun _ kv _ => N - (intOf kv).toNat)
  case atStart => exact ⟨0, by omega, rfl, Lib.hid ⟨World.ownsRow_nil _ _ _ _, KB.refl _ _, Nat.zero_le _⟩⟩
  case round =>
    obtain ⟨k, hk, rfl, hst⟩ := hrel
    by_cases hlt : k < N
    · have d1 : decide ((k : Int) < (N : Int)) = true := decide_eq_true (by omega)
      have hLt : k < L.length := by rw [← H.out.2.2]; exact hlt
      have c0 := H.out.1.cell hLt
      have c1 := hst.out.2.1.cell (p := ⟨g, k, none⟩) (fun x => x) c0
      have HJ := Lib.hid (joinL_succ hLt)
      have HS := Lib.hid (And.intro (sumL_take_succ hLt) (sumL_take_le L (k + 1)))
      generalize L.getD k ByteArray.empty = x at c0 c1 HJ HS
      generalize joinL (L.take k) = b at hst HJ
      have HSZ : Hid (b.size + x.size + 1 ≤ 1000000) := Lib.hid (by have := HB.out; have := HS.out; have := hst.out.2.2; omega)
      have HC0 := Lib.hid c0
      clear c0 hLt
      -- the text's append, from a world with the row and what it holds
      rcases Nat.eq_zero_or_pos k with hk0 | hk0
      · have d2 : decide ((0 : Int) < (k : Int)) = false := decide_eq_false (by omega)
        have d3 : ¬ (0 < k) := by omega
        have HJ2 : Hid (joinL (L.take (k + 1)) = b ++ x) := Lib.hid (by rw [HJ.out, if_neg d3])
        clear hk0
        go_wp2_with (at_builtin; refine Stopped.out ?_)
        refine ⟨?_⟩
        obtain ⟨i0, hi, hz0, hz1, hz2⟩ := info_parts bByte
        refine Lib.wpList_append_own_string _ rfl _ _ 70 9 rfl w0.heap.size 5 i0 Tryd.underlying70 Tryd.underlying9 hi hz0 hz1 hz2 _ _ _ rfl hst.out.1 x rfl (by have := HSZ.out; unfold maxLen; omega) (by have := HSZ.out; omega) hst.out.2.1.size ?_
        intro v' w' hown' hgr _
        have HN : Hid (w'.ownsRow w0.heap.size 5 1 v' (joinL (L.take (k + 1))).size (Lib.strCells (joinL (L.take (k + 1)))) ∧ KB F0 w0 w' ∧ (joinL (L.take (k + 1))).size ≤ sumL (L.take (k + 1))) := Lib.hid (by
          rw [HJ2.out]
          refine ⟨?_, hst.out.2.1.grown hgr (own_ge hst.out.1 (Nat.le_refl _)), ?_⟩
          · rw [← cells_app, ByteArray.size_append]; exact hown'
          · rw [ByteArray.size_append, HS.out.1]; have := hst.out.2.2; omega)
        clear hown' hgr hi hz0 hz1 hz2 c1
        go_wp2_with fail
        refine ⟨⟨k + 1, by omega, by go_num, HN⟩, by simp [intOf]; omega⟩
      · have d2 : decide ((0 : Int) < (k : Int)) = true := decide_eq_true (by omega)
        have HJ2 : Hid (joinL (L.take (k + 1)) = (b ++ nlB) ++ x) := Lib.hid (by rw [HJ.out, if_pos hk0])
        go_wp2_with (at_builtin; refine Stopped.out ?_)
        refine ⟨?_⟩
        obtain ⟨i0, hi, hz0, hz1, hz2⟩ := info_parts bByte
        refine app1 70 5 w0.heap.size (.int .u8 10) bByte Tryd.underlying70 rfl (own_kb hst.out.1 ((KB.refl F0 wr).alloc _) (fun _ _ x => x)) rfl rfl rfl rfl (blk_cell (alloc_new wr _) 0) rfl (by have := HSZ.out; unfold maxLen; omega) (by have := HSZ.out; omega) (by have := hst.out.2.1.size; simp; omega) ?_
        intro v1 w1 hown1 hgr1
        have hownA := own_kb hst.out.1 ((KB.refl F0 wr).alloc (.cells #[.int .u8 10] 5)) (fun _ _ x => x)
        have hk1 : KB F0 w0 w1 := (hst.out.2.1.alloc _).grown hgr1 (own_ge hownA (Nat.le_refl _))
        have hown2 : w1.ownsRow w0.heap.size 5 1 v1 (b ++ nlB).size (Lib.strCells (b ++ nlB)) := by rw [← cells_app, ByteArray.size_append]; exact hown1
        have c2 := hk1.cell (p := ⟨g, k, none⟩) (fun x => x) HC0.out
        have H1 := Lib.hid (And.intro hk1 hown2)
        have HZ2 : Hid ((b ++ nlB).size = b.size + 1) := Lib.hid (by rw [ByteArray.size_append]; rfl)
        generalize b ++ nlB = b2 at H1 HJ2 HZ2
        clear hown1 hgr1 hk1 hown2 hownA hi hz0 hz1 hz2 c1 hk0
        go_wp2_with (at_builtin; refine Stopped.out ?_)
        refine ⟨?_⟩
        obtain ⟨i0, hi, hz0, hz1, hz2⟩ := info_parts bByte
        refine Lib.wpList_append_own_string _ rfl _ _ 70 9 rfl w0.heap.size 5 i0 Tryd.underlying70 Tryd.underlying9 hi hz0 hz1 hz2 _ _ _ rfl H1.out.2 x rfl (by have := HSZ.out; have := HZ2.out; unfold maxLen; omega) (by have := HSZ.out; have := HZ2.out; omega) H1.out.1.size ?_
        intro v' w' hown' hgr _
        have HN : Hid (w'.ownsRow w0.heap.size 5 1 v' (joinL (L.take (k + 1))).size (Lib.strCells (joinL (L.take (k + 1)))) ∧ KB F0 w0 w' ∧ (joinL (L.take (k + 1))).size ≤ sumL (L.take (k + 1))) := Lib.hid (by
          rw [HJ2.out]
          refine ⟨?_, H1.out.1.grown hgr (own_ge H1.out.2 (Nat.le_refl _)), ?_⟩
          · rw [← cells_app, ByteArray.size_append]; exact hown'
          · rw [ByteArray.size_append, HS.out.1]; have := hst.out.2.2; have := HZ2.out; omega)
        clear hown' hgr hi hz0 hz1 hz2 c2
        go_wp2_with fail
        refine ⟨⟨k + 1, by omega, by go_num, HN⟩, by simp [intOf]; omega⟩
    · obtain rfl : k = N := by omega
      have d1 : decide ((k : Int) < (k : Int)) = false := decide_eq_false (by omega)
      have hcv := conv_own hst.out.1
      have HE : Hid (O = joinL (L.take k)) := Lib.hid (by rw [H.out.2.1, H.out.2.2, List.take_length])
      generalize joinL (L.take k) = b at hcv HE
      have HK := Lib.hid hst.out.2.1
      clear hst
      go_wp2_with fail
      go_ret
      exact ⟨ret_eq (by rw [HE.out]; rfl), HK.out⟩
end Go.Proofs.YtcbifoimfhfccaaDoor

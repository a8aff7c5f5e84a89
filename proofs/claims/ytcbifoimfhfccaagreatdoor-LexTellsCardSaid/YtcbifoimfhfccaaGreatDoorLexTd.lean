/- loanwordref02.join, Join, Tight, walked. -/
import Derived.Test.YtcbifoimfhfccaaGreatDoorLexTc
import Derived.Test.YtcbifoimfhfccaaGreatDoorRegionK
namespace Go.Proofs.YtcbifoimfhfccaaGreatDoor
open Go.RowKit

def wasF (ts : List Tk) (k : Nat) : ByteArray := if k = 0 then ⟨#[]⟩ else textS (ts.getD (k - 1) tk0)
theorem wasF_succ (ts : List Tk) (k : Nat) : wasF ts (k + 1) = textS (ts.getD k tk0) := by unfold wasF; rw [if_neg (by omega)]; rfl
theorem rcat_take {ap : Tk → Tk → Bool} {ts : List Tk} {k : Nat} (h : k < ts.length) : rcat ap (ts.take (k + 1)) none ByteArray.empty = rstep ap (prevT ts k) (ts.getD k tk0) (rcat ap (ts.take k) none ByteArray.empty) := by
  rw [take_getD (d := tk0) h, rcat_snoc]
  cases k with
  | zero => rfl
  | succ m => rw [take_getD (d := tk0) (show m < ts.length by omega), List.getLast?_append]; rfl
theorem rcat_bound {ap : Tk → Tk → Bool} {ts : List Tk} {k : Nat} (hk : k ≤ ts.length) (h : ∀ i, i < k → mayS (ts.getD i tk0) = true) : (rcat ap (ts.take k) none ByteArray.empty).size ≤ 65 * k := by
  have := rcat_le ap (ts.take k) none ByteArray.empty (fun t ht => by
    obtain ⟨i, hi, rfl⟩ := List.getElem_of_mem ht
    rw [List.length_take] at hi
    have := h i (by omega)
    rw [List.getD_eq_getElem?_getD, List.getElem?_eq_getElem (by omega)] at this
    rw [List.getElem_take]
    exact (may_size this).2)
  rw [List.length_take] at this
  have e : ByteArray.empty.size = 0 := rfl
  have e2 : min k ts.length = k := by omega
  rw [e, e2] at this
  omega
theorem own_len {w : World} {B z n : Nat} {e : TypeId} {v : Value} {xs : List Value} (h : w.ownsRow B e z v n xs) : ∃ a c, v = .slice a n c := by
  rcases h.2 with ⟨rfl, h0⟩ | ⟨g, cap, cur, rfl, -⟩
  · exact ⟨none, 0, by rw [h0]⟩
  · exact ⟨_, _, rfl⟩
def sp1 : ByteArray := ⟨#[32]⟩

set_option maxRecDepth 100000 in
set_option maxHeartbeats 16000000 in
theorem rjoin_all (ts : List Tk) (hl : ts.length ≤ 16384) (h64 : ∀ k, k < ts.length → Num64 (ts.getD k tk0)) (a : Option Addr) (c : Nat) (w : World) (hT : Tab w) (h1 : ToksAt w a ts) :
    Calls Tryz.prog 27 #[.slice a ts.length c, .bool false] w fun e w' => e = .returned (.tuple #[.string (joinS allAp ts).1, .int .i64 ((joinS allAp ts).2 : Nat)]) ∧ KB F0 w w' := by
  obtain ⟨w0, rfl⟩ : ∃ w0, w0 = w := ⟨_, rfl⟩
  have HO := Lib.hid (join_ref allAp ts)
  have HO2 : Hid (∀ k, k < ts.length → mayS (ts.getD k tk0) = false → joinS allAp ts = (ByteArray.empty, 2)) := Lib.hid (fun k hk h => by
    unfold joinS
    rw [if_neg]
    intro hall
    rw [all_getD] at hall
    rw [hall k hk] at h
    cases h)
  generalize joinS allAp ts = O at HO HO2 ⊢
  obtain ⟨N, hN⟩ : ∃ N, N = ts.length := ⟨_, rfl⟩
  have H := Lib.hid (And.intro h1 hN)
  have RT := Lib.hid (fun (k : Nat) (hk : k < ts.length) (W : World) (hk0 : KB F0 w0 W) => rtext_any (ts.getD k tk0) (h64 k hk) W (hT.kb hk0))
  rw [← hN] at hl ⊢
  clear h1 hN hT h64
  go_enter Tryz.func27, Tryz.ntmps27
  go_wp2_with fail
  go_loopw [6, 7, 8] (fun bv sv kv wr => ∃ k : Nat, k ≤ N ∧ sv = .string (wasF ts k) ∧ kv = .int .i64 (k : Nat) ∧ Hid (wr.ownsRow w0.heap.size 5 1 bv (rcat allAp (ts.take k) none ByteArray.empty).size (Lib.strCells (rcat allAp (ts.take k) none ByteArray.empty)) ∧ KB F0 w0 wr ∧ ∀ i, i < k → mayS (ts.getD i tk0) = true)) (fun _ _ kv _ => N - (intOf kv).toNat)
  case atStart => exact ⟨0, by omega, rfl, rfl, Lib.hid ⟨World.ownsRow_nil _ _ _ _, KB.refl _ _, fun i hi => by omega⟩⟩
  case round =>
    obtain ⟨k, hk, rfl, rfl, hst⟩ := hrel
    have hbd := rcat_bound (ap := allAp) (ts := ts) (k := k) (by rw [← H.out.2]; exact hk) hst.out.2.2
    by_cases hlt : k < N
    · have d1 : decide ((k : Int) < (N : Int)) = true := decide_eq_true (by omega)
      have hkN : (k : Int) < (N : Int) := by omega
      have hLt : k < ts.length := by rw [← H.out.2]; exact hlt
      obtain ⟨blk, off, rfl, hx0⟩ := H.out.1 k hLt
      have hx := hx0.kbF hst.out.2.1
      have HJ := Lib.hid (rcat_take (ap := allAp) hLt)
      have HW1 := Lib.hid (wasF_succ ts k)
      have RTK := Lib.hid (RT.out k hLt)
      have HNO := Lib.hid (HO2.out k hLt)
      have HMS := Lib.hid (fun (h : mayS (ts.getD k tk0) = true) => may_size h)
      have HALL0 := Lib.hid (fun (h : mayS (ts.getD k tk0) = true) i (hi : i < k + 1) => (show mayS (ts.getD i tk0) = true by
        rcases Nat.lt_or_eq_of_le (Nat.lt_succ_iff.1 hi) with h' | rfl
        · exact hst.out.2.2 i h'
        · exact h))
      have HPV := Lib.hid (H.out.1 (k - 1) (by omega))
      obtain ⟨x, hxe⟩ : ∃ x, x = ts.getD k tk0 := ⟨_, rfl⟩
      rw [← hxe] at hx HJ RTK HNO HMS HALL0 HW1
      have c0 := hx.k
      have c1 := hx.at_
      have c2 := hx.n
      have c3 := hx.s
      unfold tkC at RTK
      have HX := Lib.hid hx
      clear hx hx0 hLt hxe
      obtain ⟨u, hu⟩ : ∃ u, u = textS x := ⟨_, rfl⟩
      rw [← hu] at RTK HMS HW1
      have HUU := Lib.hid hu.symm
      clear hu
      go_wp2_with fail
      refine (RTK.out _ hst.out.2.1).mono ?_
      rintro e w1 ⟨rfl, k1⟩
      have K1 := Lib.hid (And.intro (hst.out.2.1.trans k1) k1)
      have hxk := HX.out.kbF k1
      clear k1 RTK c0 c1 c2 c3
      have c0 := hxk.k
      have c1 := hxk.at_
      have c2 := hxk.n
      have c3 := hxk.s
      clear hxk
      cases hm : mayS x
      case false =>
        have HE : Hid (O = (ByteArray.empty, 2)) := Lib.hid (HNO.out hm)
        rw [show rtOut false u = .tuple #[.string ⟨#[]⟩, .int .i64 2] from rfl]
        clear hm c0 c1 c2 c3
        go_wp2_with fail
        go_ret2
        exact ⟨ret_eq (by rw [HE.out]; rfl), K1.out.1⟩
      rw [show rtOut true u = .tuple #[.string u, .int .i64 0] from rfl]
      have HALL := Lib.hid (HALL0.out hm)
      have hus := (HMS.out hm).2
      generalize rcat allAp (ts.take k) none ByteArray.empty = b at hst HJ hbd
      have HZ : Hid (b.size + u.size + 3 ≤ 2000000) := Lib.hid (by omega)
      have HMX := Lib.hid hm
      clear hus hbd hm HMS HALL0
      by_cases hk0 : k = 0
      · have d2 : decide ((0 : Int) < (k : Int)) = false := decide_eq_false (by omega)
        have d2' : decide (0 < k) = false := decide_eq_false (by omega)
        have d3 : ¬ (0 < k) := by omega
        have HS : Hid (sepF allAp (prevT ts k) x b = b) := Lib.hid (by rw [hk0]; rfl)
        clear hk0
        go_wp2_with fail
        refine wp_region_rv 20 GQ (kindV []) (by kernel_rfl) (by kernel_rfl) GQ.trans GQ.refl (GQ.start _) (kindV_mono _) ?_
        simp only [List.take_succ_cons, List.take_zero, List.drop_succ_cons, List.drop_zero]
        iterate 3 (refine rv_det (by kernel_rfl) rfl (by intro w hG hH; obtain ⟨n, rfl⟩ := hG; go_simp; first | done | with_reducible rfl) ?_; simp only [Act.put, List.setIfInBounds_toArray, List.set_cons_zero, List.set_cons_succ])
        iterate 16 (refine rv_skip (by kernel_rfl) ?_; simp only [Act.put, List.setIfInBounds_toArray, List.set_cons_zero, List.set_cons_succ])
        refine rv_det (by kernel_rfl) rfl (by intro w hG hH; obtain ⟨n, rfl⟩ := hG; go_simp; first | done | with_reducible rfl) ?_
        simp only [Act.put, List.setIfInBounds_toArray, List.set_cons_zero, List.set_cons_succ]
        refine rv_nil (fun w hG hH => ?_)
        obtain ⟨n, rfl⟩ := hG
        clear hH
        have KD := Lib.hid (And.intro (K1.out.1.drewN n) (K1.out.2.drewN n))
        have HB := Lib.hid (And.intro (own_kb hst.out.1 KD.out.2 (fun _ _ x => x)) KD.out.1)
        obtain ⟨b2, hb2⟩ : ∃ b2, b2 = b := ⟨_, rfl⟩
        have HS := Lib.hid (HS.out.trans hb2.symm)
        rw [← hb2] at HB HZ
        clear hb2
        obtain ⟨sa, sc, rfl⟩ := own_len HB.out.1

        by_cases hle : b2.size ≤ 65536
        · have e1 : decide ((b2.size : Int) ≤ 65536) = true := decide_eq_true (by omega)
          have HJ2 : Hid (rcat allAp (ts.take (k + 1)) none ByteArray.empty = b2 ++ u) := Lib.hid (by rw [HJ.out, rstep, HS.out, if_pos hle, HUU.out])
          clear hle
          go_wp2_with (at_builtin; refine Stopped.out ?_)
          refine ⟨?_⟩
          obtain ⟨i0, hi, hz0, hz1, hz2⟩ := info_parts bByte
          refine Lib.wpList_append_own_string _ rfl _ _ 67 9 rfl w0.heap.size 5 i0 Tryz.underlying67 Tryz.underlying9 hi hz0 hz1 hz2 _ _ _ rfl HB.out.1 u rfl (by have := HZ.out; unfold maxLen; omega) (by have := HZ.out; omega) HB.out.2.size ?_
          intro v' w' hown' hgr _
          have HNN : Hid (w'.ownsRow w0.heap.size 5 1 v' (rcat allAp (ts.take (k + 1)) none ByteArray.empty).size (Lib.strCells (rcat allAp (ts.take (k + 1)) none ByteArray.empty)) ∧ KB F0 w0 w') := Lib.hid (by
            rw [HJ2.out]
            refine ⟨?_, HB.out.2.grown hgr (own_ge HB.out.1 (Nat.le_refl _))⟩
            rw [← cells_app, ByteArray.size_append]; exact hown')
          clear hown' hgr hi hz0 hz1 hz2 c0 c1 c2 c3
          go_wp2_with fail
          refine ⟨⟨k + 1, by omega, by rw [HW1.out], by go_num, Lib.hid ⟨HNN.out.1, HNN.out.2, HALL.out⟩⟩, by simp [intOf]; omega⟩
        · have e1 : decide ((b2.size : Int) ≤ 65536) = false := decide_eq_false (by omega)
          have HJ2 : Hid (rcat allAp (ts.take (k + 1)) none ByteArray.empty = b2) := Lib.hid (by rw [HJ.out, rstep, HS.out, if_neg hle])
          clear hle c0 c1 c2 c3
          go_wp2_with fail
          refine ⟨⟨k + 1, by omega, by rw [HW1.out], by go_num, Lib.hid ⟨by rw [HJ2.out]; exact HB.out.1, HB.out.2, HALL.out⟩⟩, by simp [intOf]; omega⟩
      · have d2 : decide ((0 : Int) < (k : Int)) = true := decide_eq_true (by omega)
        have d2' : decide (0 < k) = true := decide_eq_true (by omega)
        have d3 : 0 < k := by omega
        obtain ⟨m, hm⟩ : ∃ m, k = m + 1 := ⟨k - 1, by omega⟩
        have HPT : Hid (prevT ts k = some (ts.getD m tk0)) := Lib.hid (by rw [hm]; exact prevT_succ ts m)
        have HS : Hid (sepF allAp (prevT ts k) x b = b ++ sp1) := Lib.hid (by rw [HPT.out]; rfl)
        clear hk0 hm
        go_wp2_with fail
        refine wp_region_rv 20 GQ (kindV []) (by kernel_rfl) (by kernel_rfl) GQ.trans GQ.refl (GQ.start _) (kindV_mono _) ?_
        simp only [List.take_succ_cons, List.take_zero, List.drop_succ_cons, List.drop_zero]
        iterate 5 (refine rv_det (by kernel_rfl) rfl (by intro w hG hH; obtain ⟨n, rfl⟩ := hG; go_simp; first | done | with_reducible rfl) ?_; simp only [Act.put, List.setIfInBounds_toArray, List.set_cons_zero, List.set_cons_succ])
        iterate 12 (refine rv_skip (by kernel_rfl) ?_; simp only [Act.put, List.setIfInBounds_toArray, List.set_cons_zero, List.set_cons_succ])
        iterate 3 (refine rv_det (by kernel_rfl) rfl (by intro w hG hH; obtain ⟨n, rfl⟩ := hG; go_simp; first | done | with_reducible rfl) ?_; simp only [Act.put, List.setIfInBounds_toArray, List.set_cons_zero, List.set_cons_succ])
        refine rv_nil (fun w hG hH => ?_)
        obtain ⟨n, rfl⟩ := hG
        clear hH
        have KD := Lib.hid (And.intro (K1.out.1.drewN n) (K1.out.2.drewN n))
        go_wp2_with (at_builtin; refine Stopped.out ?_)
        refine ⟨?_⟩
        obtain ⟨i0, hi, hz0, hz1, hz2⟩ := info_parts bByte
        have hownW := own_kb hst.out.1 KD.out.2 (fun _ _ x => x)
        refine app1 67 5 w0.heap.size (.int .u8 32) bByte Tryz.underlying67 rfl (own_kb hownW ((KB.refl F0 _).alloc _) (fun _ _ x => x)) rfl rfl rfl rfl (blk_cell (alloc_new _ _) 0) rfl (by have := HZ.out; unfold maxLen; omega) (by have := HZ.out; omega) (by have := KD.out.1.size; (try simp at this); simp; omega) ?_
        intro v1 w3 hown1 hgr1
        have hownA := own_kb hownW ((KB.refl F0 _).alloc (.cells #[.int .u8 32] 5)) (fun _ _ x => x)
        have hk1 : KB F0 w0 w3 := (KD.out.1.alloc _).grown hgr1 (own_ge hownA (Nat.le_refl _))
        have hown2 : w3.ownsRow w0.heap.size 5 1 v1 (b ++ sp1).size (Lib.strCells (b ++ sp1)) := by rw [← cells_app, ByteArray.size_append]; exact hown1
        have HB := Lib.hid (And.intro hown2 hk1)
        have HZ2 : Hid ((b ++ sp1).size = b.size + 1) := Lib.hid (by rw [ByteArray.size_append]; rfl)
        obtain ⟨b2, hb2⟩ : ∃ b2, b2 = b ++ sp1 := ⟨_, rfl⟩
        rw [← hb2] at HB HS HZ2
        have HZ := Lib.hid (show b2.size + u.size + 2 ≤ 2000000 by have := HZ.out; have := HZ2.out; omega)
        clear hb2 hown1 hgr1 hownA hk1 hown2 hownW hi hz0 hz1 hz2
        obtain ⟨sa, sc, rfl⟩ := own_len HB.out.1

        by_cases hle : b2.size ≤ 65536
        · have e1 : decide ((b2.size : Int) ≤ 65536) = true := decide_eq_true (by omega)
          have HJ2 : Hid (rcat allAp (ts.take (k + 1)) none ByteArray.empty = b2 ++ u) := Lib.hid (by rw [HJ.out, rstep, HS.out, if_pos hle, HUU.out])
          clear hle
          go_wp2_with (at_builtin; refine Stopped.out ?_)
          refine ⟨?_⟩
          obtain ⟨i0, hi, hz0, hz1, hz2⟩ := info_parts bByte
          refine Lib.wpList_append_own_string _ rfl _ _ 67 9 rfl w0.heap.size 5 i0 Tryz.underlying67 Tryz.underlying9 hi hz0 hz1 hz2 _ _ _ rfl HB.out.1 u rfl (by have := HZ.out; unfold maxLen; omega) (by have := HZ.out; omega) HB.out.2.size ?_
          intro v' w' hown' hgr _
          have HNN : Hid (w'.ownsRow w0.heap.size 5 1 v' (rcat allAp (ts.take (k + 1)) none ByteArray.empty).size (Lib.strCells (rcat allAp (ts.take (k + 1)) none ByteArray.empty)) ∧ KB F0 w0 w') := Lib.hid (by
            rw [HJ2.out]
            refine ⟨?_, HB.out.2.grown hgr (own_ge HB.out.1 (Nat.le_refl _))⟩
            rw [← cells_app, ByteArray.size_append]; exact hown')
          clear hown' hgr hi hz0 hz1 hz2 c0 c1 c2 c3
          go_wp2_with fail
          refine ⟨⟨k + 1, by omega, by rw [HW1.out], by go_num, Lib.hid ⟨HNN.out.1, HNN.out.2, HALL.out⟩⟩, by simp [intOf]; omega⟩
        · have e1 : decide ((b2.size : Int) ≤ 65536) = false := decide_eq_false (by omega)
          have HJ2 : Hid (rcat allAp (ts.take (k + 1)) none ByteArray.empty = b2) := Lib.hid (by rw [HJ.out, rstep, HS.out, if_neg hle])
          clear hle c0 c1 c2 c3
          go_wp2_with fail
          refine ⟨⟨k + 1, by omega, by rw [HW1.out], by go_num, Lib.hid ⟨by rw [HJ2.out]; exact HB.out.1, HB.out.2, HALL.out⟩⟩, by simp [intOf]; omega⟩
    · obtain rfl : k = N := by omega
      have d1 : decide ((k : Int) < (k : Int)) = false := decide_eq_false (by omega)
      have HE0 : Hid (O = if 65536 < (rcat allAp (ts.take k) none ByteArray.empty).size then (ByteArray.empty, 3) else (rcat allAp (ts.take k) none ByteArray.empty, 0)) := Lib.hid (by
        rw [H.out.2, List.take_length]
        exact HO.out (all_getD.2 (fun i hi => hst.out.2.2 i (by rw [H.out.2]; exact hi))))
      generalize rcat allAp (ts.take k) none ByteArray.empty = b at hst HE0 hbd
      obtain ⟨sa, sc, rfl⟩ := own_len hst.out.1
      have hcv := conv_own hst.out.1
      have HK := Lib.hid hst.out.2.1
      clear hst
      by_cases hb : 65536 < b.size
      · have e1 : decide ((65536 : Int) < (b.size : Int)) = true := decide_eq_true (by omega)
        have HE : Hid (O = (ByteArray.empty, 3)) := Lib.hid (by rw [HE0.out, if_pos hb])
        clear hb hcv
        go_wp2_with fail
        go_ret2
        exact ⟨ret_eq (by rw [HE.out]; rfl), HK.out⟩
      · have e1 : decide ((65536 : Int) < (b.size : Int)) = false := decide_eq_false (by omega)
        have HE : Hid (O = (b, 0)) := Lib.hid (by rw [HE0.out, if_neg hb])
        clear hb
        go_wp2_with fail
        go_ret2
        exact ⟨ret_eq (by rw [HE.out]; rfl), HK.out⟩

set_option maxRecDepth 100000 in
set_option maxHeartbeats 16000000 in
theorem rjoin_tight (ts : List Tk) (hl : ts.length ≤ 16384) (h64 : ∀ k, k < ts.length → Num64 (ts.getD k tk0)) (a : Option Addr) (c : Nat) (w : World) (hT : Tab w) (h1 : ToksAt w a ts) :
    Calls Tryz.prog 27 #[.slice a ts.length c, .bool true] w fun e w' => e = .returned (.tuple #[.string (joinS tightAp ts).1, .int .i64 ((joinS tightAp ts).2 : Nat)]) ∧ KB F0 w w' := by
  obtain ⟨w0, rfl⟩ : ∃ w0, w0 = w := ⟨_, rfl⟩
  have HO := Lib.hid (join_ref tightAp ts)
  have HO2 : Hid (∀ k, k < ts.length → mayS (ts.getD k tk0) = false → joinS tightAp ts = (ByteArray.empty, 2)) := Lib.hid (fun k hk h => by
    unfold joinS
    rw [if_neg]
    intro hall
    rw [all_getD] at hall
    rw [hall k hk] at h
    cases h)
  generalize joinS tightAp ts = O at HO HO2 ⊢
  obtain ⟨N, hN⟩ : ∃ N, N = ts.length := ⟨_, rfl⟩
  have H := Lib.hid (And.intro h1 hN)
  have RT := Lib.hid (fun (k : Nat) (hk : k < ts.length) (W : World) (hk0 : KB F0 w0 W) => rtext_any (ts.getD k tk0) (h64 k hk) W (hT.kb hk0))
  rw [← hN] at hl ⊢
  clear h1 hN hT h64
  go_enter Tryz.func27, Tryz.ntmps27
  go_wp2_with fail
  go_loopw [6, 7, 8] (fun bv sv kv wr => ∃ k : Nat, k ≤ N ∧ sv = .string (wasF ts k) ∧ kv = .int .i64 (k : Nat) ∧ Hid (wr.ownsRow w0.heap.size 5 1 bv (rcat tightAp (ts.take k) none ByteArray.empty).size (Lib.strCells (rcat tightAp (ts.take k) none ByteArray.empty)) ∧ KB F0 w0 wr ∧ ∀ i, i < k → mayS (ts.getD i tk0) = true)) (fun _ _ kv _ => N - (intOf kv).toNat)
  case atStart => exact ⟨0, by omega, rfl, rfl, Lib.hid ⟨World.ownsRow_nil _ _ _ _, KB.refl _ _, fun i hi => by omega⟩⟩
  case round =>
    obtain ⟨k, hk, rfl, rfl, hst⟩ := hrel
    have hbd := rcat_bound (ap := tightAp) (ts := ts) (k := k) (by rw [← H.out.2]; exact hk) hst.out.2.2
    by_cases hlt : k < N
    · have d1 : decide ((k : Int) < (N : Int)) = true := decide_eq_true (by omega)
      have hkN : (k : Int) < (N : Int) := by omega
      have hLt : k < ts.length := by rw [← H.out.2]; exact hlt
      obtain ⟨blk, off, rfl, hx0⟩ := H.out.1 k hLt
      have hx := hx0.kbF hst.out.2.1
      have HJ := Lib.hid (rcat_take (ap := tightAp) hLt)
      have HW1 := Lib.hid (wasF_succ ts k)
      have RTK := Lib.hid (RT.out k hLt)
      have HNO := Lib.hid (HO2.out k hLt)
      have HMS := Lib.hid (fun (h : mayS (ts.getD k tk0) = true) => may_size h)
      have HALL0 := Lib.hid (fun (h : mayS (ts.getD k tk0) = true) i (hi : i < k + 1) => (show mayS (ts.getD i tk0) = true by
        rcases Nat.lt_or_eq_of_le (Nat.lt_succ_iff.1 hi) with h' | rfl
        · exact hst.out.2.2 i h'
        · exact h))
      have HPV := Lib.hid (H.out.1 (k - 1) (by omega))
      obtain ⟨x, hxe⟩ : ∃ x, x = ts.getD k tk0 := ⟨_, rfl⟩
      rw [← hxe] at hx HJ RTK HNO HMS HALL0 HW1
      have c0 := hx.k
      have c1 := hx.at_
      have c2 := hx.n
      have c3 := hx.s
      unfold tkC at RTK
      have HX := Lib.hid hx
      clear hx hx0 hLt hxe
      obtain ⟨u, hu⟩ : ∃ u, u = textS x := ⟨_, rfl⟩
      rw [← hu] at RTK HMS HW1
      have HUU := Lib.hid hu.symm
      clear hu
      go_wp2_with fail
      refine (RTK.out _ hst.out.2.1).mono ?_
      rintro e w1 ⟨rfl, k1⟩
      have K1 := Lib.hid (And.intro (hst.out.2.1.trans k1) k1)
      have hxk := HX.out.kbF k1
      clear k1 RTK c0 c1 c2 c3
      have c0 := hxk.k
      have c1 := hxk.at_
      have c2 := hxk.n
      have c3 := hxk.s
      clear hxk
      cases hm : mayS x
      case false =>
        have HE : Hid (O = (ByteArray.empty, 2)) := Lib.hid (HNO.out hm)
        rw [show rtOut false u = .tuple #[.string ⟨#[]⟩, .int .i64 2] from rfl]
        clear hm c0 c1 c2 c3
        go_wp2_with fail
        go_ret2
        exact ⟨ret_eq (by rw [HE.out]; rfl), K1.out.1⟩
      rw [show rtOut true u = .tuple #[.string u, .int .i64 0] from rfl]
      have HALL := Lib.hid (HALL0.out hm)
      have hus := (HMS.out hm).2
      generalize rcat tightAp (ts.take k) none ByteArray.empty = b at hst HJ hbd
      have HZ : Hid (b.size + u.size + 3 ≤ 2000000) := Lib.hid (by omega)
      have HMX := Lib.hid hm
      clear hus hbd hm HMS HALL0
      by_cases hk0 : k = 0
      · have d2 : decide ((0 : Int) < (k : Int)) = false := decide_eq_false (by omega)
        have d2' : decide (0 < k) = false := decide_eq_false (by omega)
        have d3 : ¬ (0 < k) := by omega
        have HS : Hid (sepF tightAp (prevT ts k) x b = b) := Lib.hid (by rw [hk0]; rfl)
        clear hk0
        go_wp2_with fail
        refine wp_region_rv 20 GQ (kindV []) (by kernel_rfl) (by kernel_rfl) GQ.trans GQ.refl (GQ.start _) (kindV_mono _) ?_
        simp only [List.take_succ_cons, List.take_zero, List.drop_succ_cons, List.drop_zero]
        iterate 3 (refine rv_det (by kernel_rfl) rfl (by intro w hG hH; obtain ⟨n, rfl⟩ := hG; go_simp; first | done | with_reducible rfl) ?_; simp only [Act.put, List.setIfInBounds_toArray, List.set_cons_zero, List.set_cons_succ])
        iterate 16 (refine rv_skip (by kernel_rfl) ?_; simp only [Act.put, List.setIfInBounds_toArray, List.set_cons_zero, List.set_cons_succ])
        refine rv_det (by kernel_rfl) rfl (by intro w hG hH; obtain ⟨n, rfl⟩ := hG; go_simp; first | done | with_reducible rfl) ?_
        simp only [Act.put, List.setIfInBounds_toArray, List.set_cons_zero, List.set_cons_succ]
        refine rv_nil (fun w hG hH => ?_)
        obtain ⟨n, rfl⟩ := hG
        clear hH
        have KD := Lib.hid (And.intro (K1.out.1.drewN n) (K1.out.2.drewN n))
        have HB := Lib.hid (And.intro (own_kb hst.out.1 KD.out.2 (fun _ _ x => x)) KD.out.1)
        obtain ⟨b2, hb2⟩ : ∃ b2, b2 = b := ⟨_, rfl⟩
        have HS := Lib.hid (HS.out.trans hb2.symm)
        rw [← hb2] at HB HZ
        clear hb2
        obtain ⟨sa, sc, rfl⟩ := own_len HB.out.1

        by_cases hle : b2.size ≤ 65536
        · have e1 : decide ((b2.size : Int) ≤ 65536) = true := decide_eq_true (by omega)
          have HJ2 : Hid (rcat tightAp (ts.take (k + 1)) none ByteArray.empty = b2 ++ u) := Lib.hid (by rw [HJ.out, rstep, HS.out, if_pos hle, HUU.out])
          clear hle
          go_wp2_with (at_builtin; refine Stopped.out ?_)
          refine ⟨?_⟩
          obtain ⟨i0, hi, hz0, hz1, hz2⟩ := info_parts bByte
          refine Lib.wpList_append_own_string _ rfl _ _ 67 9 rfl w0.heap.size 5 i0 Tryz.underlying67 Tryz.underlying9 hi hz0 hz1 hz2 _ _ _ rfl HB.out.1 u rfl (by have := HZ.out; unfold maxLen; omega) (by have := HZ.out; omega) HB.out.2.size ?_
          intro v' w' hown' hgr _
          have HNN : Hid (w'.ownsRow w0.heap.size 5 1 v' (rcat tightAp (ts.take (k + 1)) none ByteArray.empty).size (Lib.strCells (rcat tightAp (ts.take (k + 1)) none ByteArray.empty)) ∧ KB F0 w0 w') := Lib.hid (by
            rw [HJ2.out]
            refine ⟨?_, HB.out.2.grown hgr (own_ge HB.out.1 (Nat.le_refl _))⟩
            rw [← cells_app, ByteArray.size_append]; exact hown')
          clear hown' hgr hi hz0 hz1 hz2 c0 c1 c2 c3
          go_wp2_with fail
          refine ⟨⟨k + 1, by omega, by rw [HW1.out], by go_num, Lib.hid ⟨HNN.out.1, HNN.out.2, HALL.out⟩⟩, by simp [intOf]; omega⟩
        · have e1 : decide ((b2.size : Int) ≤ 65536) = false := decide_eq_false (by omega)
          have HJ2 : Hid (rcat tightAp (ts.take (k + 1)) none ByteArray.empty = b2) := Lib.hid (by rw [HJ.out, rstep, HS.out, if_neg hle])
          clear hle c0 c1 c2 c3
          go_wp2_with fail
          refine ⟨⟨k + 1, by omega, by rw [HW1.out], by go_num, Lib.hid ⟨by rw [HJ2.out]; exact HB.out.1, HB.out.2, HALL.out⟩⟩, by simp [intOf]; omega⟩
      · have d2 : decide ((0 : Int) < (k : Int)) = true := decide_eq_true (by omega)
        have d2' : decide (0 < k) = true := decide_eq_true (by omega)
        have d3 : 0 < k := by omega
        obtain ⟨m, hm⟩ : ∃ m, k = m + 1 := ⟨k - 1, by omega⟩
        have HPT : Hid (prevT ts k = some (ts.getD m tk0)) := Lib.hid (by rw [hm]; exact prevT_succ ts m)
        have HWS : Hid (wasF ts k = textS (ts.getD m tk0)) := Lib.hid (by rw [hm]; exact wasF_succ ts m)
        obtain ⟨blk', off', he, hq0⟩ := HPV.out
        simp only [Option.some.injEq, Addr.mk.injEq, and_true] at he
        obtain ⟨rfl, rfl⟩ := he
        rw [show k - 1 = m by omega] at hq0
        have hq := hq0.kbF K1.out.1
        have HMQ := Lib.hid (HALL.out m (by omega))
        generalize ts.getD m tk0 = q at hq HPT HWS HMQ
        have q0 := hq.k
        have q1 := hq.at_
        have q2 := hq.n
        have q3 := hq.s
        rw [HWS.out]
        have RAP := Lib.hid (fun (W : World) => rapart_any (textS q) u q x (by have h1 := (may_size HMQ.out).2; have h2 := (may_size HMX.out).2; rw [HUU.out] at h2; omega) W)
        unfold tkC at RAP
        obtain ⟨Q, hQ⟩ : ∃ Q, Q = likeB (textS q ++ u) [q, x] := ⟨_, rfl⟩
        rw [← hQ] at RAP
        have HS0 : Hid (sepF tightAp (prevT ts k) x b = if Q = true then b else b ++ sp1) := Lib.hid (by
          rw [HPT.out, hQ, ← HUU.out]
          show (if (!likeB (textS q ++ textS x) [q, x]) = true then b ++ ⟨#[32]⟩ else b) = if likeB (textS q ++ textS x) [q, x] = true then b else b ++ ⟨#[32]⟩
          cases likeB (textS q ++ textS x) [q, x] <;> rfl)
        have w1f : IntKind.i64.wrap ((k : Int) - 1) = (m : Int) := by rw [w64 (by omega) (by omega)]; omega
        have mN : (m : Int) < (N : Int) := by omega
        have mk : m < N := by omega
        generalize textS q = wu at RAP
        clear hk0 hm hq hq0 hQ
        go_wp2_with fail
        refine wp_region_rv 20 GK (kindW [(16, (fun v => v = .bool Q), (fun _ _ => True))]) (by kernel_rfl) (by kernel_rfl) (kb_trans _) (kb_refl _) (kb_start _ _) (kindW_mono _ (by intro p hp; simp only [List.mem_cons, List.not_mem_nil, or_false] at hp; subst hp; exact lasts_true)) ?_
        simp only [List.take_succ_cons, List.take_zero, List.drop_succ_cons, List.drop_zero]
        iterate 11 (refine rv_det (by kernel_rfl) rfl (by intro w hG hH; go_simp; first | done | with_reducible rfl) ?_; simp only [Act.put, List.setIfInBounds_toArray, List.set_cons_zero, List.set_cons_succ])
        refine rv_det (by kernel_rfl) rfl (by intro w hG hH; have hc0 := KB.cell hG (fun x => x) (q0); have hc1 := KB.cell hG (fun x => x) (q1); have hc2 := KB.cell hG (fun x => x) (q2); have hc3 := KB.cell hG (fun x => x) (q3); go_simp; first | done | with_reducible rfl) ?_
        simp only [Act.put, List.setIfInBounds_toArray, List.set_cons_zero, List.set_cons_succ]
        iterate 3 (refine rv_det (by kernel_rfl) rfl (by intro w hG hH; go_simp; first | done | with_reducible rfl) ?_; simp only [Act.put, List.setIfInBounds_toArray, List.set_cons_zero, List.set_cons_succ])
        refine rv_det (by kernel_rfl) rfl (by intro w hG hH; have hc0 := KB.cell hG (fun x => x) (c0); have hc1 := KB.cell hG (fun x => x) (c1); have hc2 := KB.cell hG (fun x => x) (c2); have hc3 := KB.cell hG (fun x => x) (c3); go_simp; first | done | with_reducible rfl) ?_
        simp only [Act.put, List.setIfInBounds_toArray, List.set_cons_zero, List.set_cons_succ]
        refine rv_rel (by kernel_rfl) rfl ⟨_, rfl⟩ (by
          intro w hG hH
          refine opVal_call (by go_simp; first | done | exact ⟨⟨rfl, rfl⟩, rfl⟩) ?_
          refine (RAP.out _).mono ?_
          rintro e w' ⟨rfl, hq⟩
          exact ⟨_, rfl, rfl, by first | (obtain ⟨nq, rfl⟩ := hq; exact (KB.refl _ _).drewN _) | (subst hq; exact KB.refl _ _) | exact hq, trivial⟩) ?_
        rintro v rfl
        simp only [Act.put, List.setIfInBounds_toArray, List.set_cons_zero, List.set_cons_succ]
        iterate 3 (refine rv_det (by kernel_rfl) rfl (by intro w hG hH; go_simp; first | done | with_reducible rfl) ?_; simp only [Act.put, List.setIfInBounds_toArray, List.set_cons_zero, List.set_cons_succ])
        refine rv_nil (fun w hG hH => ?_)
        have KD := Lib.hid (And.intro (K1.out.1.trans hG) (K1.out.2.trans hG))
        clear hG hH
        have q0 := True.intro
        clear q0 q1 q2 q3
        cases Q
        case true =>
          have HS : Hid (sepF tightAp (prevT ts k) x b = b) := Lib.hid (by rw [HS0.out]; rfl)
          have HB := Lib.hid (And.intro (own_kb hst.out.1 KD.out.2 (fun _ _ x => x)) KD.out.1)
          obtain ⟨b2, hb2⟩ : ∃ b2, b2 = b := ⟨_, rfl⟩
          have HS := Lib.hid (HS.out.trans hb2.symm)
          rw [← hb2] at HB HZ
          clear hb2
          obtain ⟨sa, sc, rfl⟩ := own_len HB.out.1

          by_cases hle : b2.size ≤ 65536
          · have e1 : decide ((b2.size : Int) ≤ 65536) = true := decide_eq_true (by omega)
            have HJ2 : Hid (rcat tightAp (ts.take (k + 1)) none ByteArray.empty = b2 ++ u) := Lib.hid (by rw [HJ.out, rstep, HS.out, if_pos hle, HUU.out])
            clear hle
            go_wp2_with (at_builtin; refine Stopped.out ?_)
            refine ⟨?_⟩
            obtain ⟨i0, hi, hz0, hz1, hz2⟩ := info_parts bByte
            refine Lib.wpList_append_own_string _ rfl _ _ 67 9 rfl w0.heap.size 5 i0 Tryz.underlying67 Tryz.underlying9 hi hz0 hz1 hz2 _ _ _ rfl HB.out.1 u rfl (by have := HZ.out; unfold maxLen; omega) (by have := HZ.out; omega) HB.out.2.size ?_
            intro v' w' hown' hgr _
            have HNN : Hid (w'.ownsRow w0.heap.size 5 1 v' (rcat tightAp (ts.take (k + 1)) none ByteArray.empty).size (Lib.strCells (rcat tightAp (ts.take (k + 1)) none ByteArray.empty)) ∧ KB F0 w0 w') := Lib.hid (by
              rw [HJ2.out]
              refine ⟨?_, HB.out.2.grown hgr (own_ge HB.out.1 (Nat.le_refl _))⟩
              rw [← cells_app, ByteArray.size_append]; exact hown')
            clear hown' hgr hi hz0 hz1 hz2 c0 c1 c2 c3
            go_wp2_with fail
            refine ⟨⟨k + 1, by omega, by rw [HW1.out], by go_num, Lib.hid ⟨HNN.out.1, HNN.out.2, HALL.out⟩⟩, by simp [intOf]; omega⟩
          · have e1 : decide ((b2.size : Int) ≤ 65536) = false := decide_eq_false (by omega)
            have HJ2 : Hid (rcat tightAp (ts.take (k + 1)) none ByteArray.empty = b2) := Lib.hid (by rw [HJ.out, rstep, HS.out, if_neg hle])
            clear hle c0 c1 c2 c3
            go_wp2_with fail
            refine ⟨⟨k + 1, by omega, by rw [HW1.out], by go_num, Lib.hid ⟨by rw [HJ2.out]; exact HB.out.1, HB.out.2, HALL.out⟩⟩, by simp [intOf]; omega⟩
        case false =>
          have HS : Hid (sepF tightAp (prevT ts k) x b = b ++ sp1) := Lib.hid (by rw [HS0.out]; rfl)
          go_wp2_with (at_builtin; refine Stopped.out ?_)
          refine ⟨?_⟩
          obtain ⟨i0, hi, hz0, hz1, hz2⟩ := info_parts bByte
          have hownW := own_kb hst.out.1 KD.out.2 (fun _ _ x => x)
          refine app1 67 5 w0.heap.size (.int .u8 32) bByte Tryz.underlying67 rfl (own_kb hownW ((KB.refl F0 _).alloc _) (fun _ _ x => x)) rfl rfl rfl rfl (blk_cell (alloc_new _ _) 0) rfl (by have := HZ.out; unfold maxLen; omega) (by have := HZ.out; omega) (by have := KD.out.1.size; (try simp at this); simp; omega) ?_
          intro v1 w3 hown1 hgr1
          have hownA := own_kb hownW ((KB.refl F0 _).alloc (.cells #[.int .u8 32] 5)) (fun _ _ x => x)
          have hk1 : KB F0 w0 w3 := (KD.out.1.alloc _).grown hgr1 (own_ge hownA (Nat.le_refl _))
          have hown2 : w3.ownsRow w0.heap.size 5 1 v1 (b ++ sp1).size (Lib.strCells (b ++ sp1)) := by rw [← cells_app, ByteArray.size_append]; exact hown1
          have HB := Lib.hid (And.intro hown2 hk1)
          have HZ2 : Hid ((b ++ sp1).size = b.size + 1) := Lib.hid (by rw [ByteArray.size_append]; rfl)
          obtain ⟨b2, hb2⟩ : ∃ b2, b2 = b ++ sp1 := ⟨_, rfl⟩
          rw [← hb2] at HB HS HZ2
          have HZ := Lib.hid (show b2.size + u.size + 2 ≤ 2000000 by have := HZ.out; have := HZ2.out; omega)
          clear hb2 hown1 hgr1 hownA hk1 hown2 hownW hi hz0 hz1 hz2
          obtain ⟨sa, sc, rfl⟩ := own_len HB.out.1

          by_cases hle : b2.size ≤ 65536
          · have e1 : decide ((b2.size : Int) ≤ 65536) = true := decide_eq_true (by omega)
            have HJ2 : Hid (rcat tightAp (ts.take (k + 1)) none ByteArray.empty = b2 ++ u) := Lib.hid (by rw [HJ.out, rstep, HS.out, if_pos hle, HUU.out])
            clear hle
            go_wp2_with (at_builtin; refine Stopped.out ?_)
            refine ⟨?_⟩
            obtain ⟨i0, hi, hz0, hz1, hz2⟩ := info_parts bByte
            refine Lib.wpList_append_own_string _ rfl _ _ 67 9 rfl w0.heap.size 5 i0 Tryz.underlying67 Tryz.underlying9 hi hz0 hz1 hz2 _ _ _ rfl HB.out.1 u rfl (by have := HZ.out; unfold maxLen; omega) (by have := HZ.out; omega) HB.out.2.size ?_
            intro v' w' hown' hgr _
            have HNN : Hid (w'.ownsRow w0.heap.size 5 1 v' (rcat tightAp (ts.take (k + 1)) none ByteArray.empty).size (Lib.strCells (rcat tightAp (ts.take (k + 1)) none ByteArray.empty)) ∧ KB F0 w0 w') := Lib.hid (by
              rw [HJ2.out]
              refine ⟨?_, HB.out.2.grown hgr (own_ge HB.out.1 (Nat.le_refl _))⟩
              rw [← cells_app, ByteArray.size_append]; exact hown')
            clear hown' hgr hi hz0 hz1 hz2 c0 c1 c2 c3
            go_wp2_with fail
            refine ⟨⟨k + 1, by omega, by rw [HW1.out], by go_num, Lib.hid ⟨HNN.out.1, HNN.out.2, HALL.out⟩⟩, by simp [intOf]; omega⟩
          · have e1 : decide ((b2.size : Int) ≤ 65536) = false := decide_eq_false (by omega)
            have HJ2 : Hid (rcat tightAp (ts.take (k + 1)) none ByteArray.empty = b2) := Lib.hid (by rw [HJ.out, rstep, HS.out, if_neg hle])
            clear hle c0 c1 c2 c3
            go_wp2_with fail
            refine ⟨⟨k + 1, by omega, by rw [HW1.out], by go_num, Lib.hid ⟨by rw [HJ2.out]; exact HB.out.1, HB.out.2, HALL.out⟩⟩, by simp [intOf]; omega⟩
    · obtain rfl : k = N := by omega
      have d1 : decide ((k : Int) < (k : Int)) = false := decide_eq_false (by omega)
      have HE0 : Hid (O = if 65536 < (rcat tightAp (ts.take k) none ByteArray.empty).size then (ByteArray.empty, 3) else (rcat tightAp (ts.take k) none ByteArray.empty, 0)) := Lib.hid (by
        rw [H.out.2, List.take_length]
        exact HO.out (all_getD.2 (fun i hi => hst.out.2.2 i (by rw [H.out.2]; exact hi))))
      generalize rcat tightAp (ts.take k) none ByteArray.empty = b at hst HE0 hbd
      obtain ⟨sa, sc, rfl⟩ := own_len hst.out.1
      have hcv := conv_own hst.out.1
      have HK := Lib.hid hst.out.2.1
      clear hst
      by_cases hb : 65536 < b.size
      · have e1 : decide ((65536 : Int) < (b.size : Int)) = true := decide_eq_true (by omega)
        have HE : Hid (O = (ByteArray.empty, 3)) := Lib.hid (by rw [HE0.out, if_pos hb])
        clear hb hcv
        go_wp2_with fail
        go_ret2
        exact ⟨ret_eq (by rw [HE.out]; rfl), HK.out⟩
      · have e1 : decide ((65536 : Int) < (b.size : Int)) = false := decide_eq_false (by omega)
        have HE : Hid (O = (b, 0)) := Lib.hid (by rw [HE0.out, if_neg hb])
        clear hb
        go_wp2_with fail
        go_ret2
        exact ⟨ret_eq (by rw [HE.out]; rfl), HK.out⟩

set_option maxRecDepth 100000 in
theorem rJoin_any (ts : List Tk) (hl : ts.length ≤ 16384) (h64 : ∀ k, k < ts.length → Num64 (ts.getD k tk0)) (a : Option Addr) (c : Nat) (w : World) (hT : Tab w) (h1 : ToksAt w a ts) :
    Calls Tryz.prog 11 #[.slice a ts.length c] w fun e w' => e = .returned (.tuple #[.string (joinS allAp ts).1, .int .i64 ((joinS allAp ts).2 : Nat)]) ∧ KB F0 w w' := by
  obtain ⟨w0, rfl⟩ : ∃ w0, w0 = w := ⟨_, rfl⟩
  have J := Lib.hid (rjoin_all ts hl h64 a c w0 hT h1)
  generalize joinS allAp ts = O at J ⊢
  obtain ⟨O1, O2⟩ := O
  simp only at J ⊢
  generalize ts.length = N at J ⊢
  clear h1 hT h64 hl
  go_enter Tryz.func11, Tryz.ntmps11
  go_wp2_with fail
  refine J.out.mono ?_
  rintro e w1 ⟨rfl, k1⟩
  have K1 := Lib.hid k1
  clear k1 J
  go_wp2_with fail
  go_ret2
  exact ⟨rfl, K1.out⟩

set_option maxRecDepth 100000 in
theorem rTight_any (ts : List Tk) (hl : ts.length ≤ 16384) (h64 : ∀ k, k < ts.length → Num64 (ts.getD k tk0)) (a : Option Addr) (c : Nat) (w : World) (hT : Tab w) (h1 : ToksAt w a ts) :
    Calls Tryz.prog 13 #[.slice a ts.length c] w fun e w' => e = .returned (.tuple #[.string (joinS tightAp ts).1, .int .i64 ((joinS tightAp ts).2 : Nat)]) ∧ KB F0 w w' := by
  obtain ⟨w0, rfl⟩ : ∃ w0, w0 = w := ⟨_, rfl⟩
  have J := Lib.hid (rjoin_tight ts hl h64 a c w0 hT h1)
  generalize joinS tightAp ts = O at J ⊢
  obtain ⟨O1, O2⟩ := O
  simp only at J ⊢
  generalize ts.length = N at J ⊢
  clear h1 hT h64 hl
  go_enter Tryz.func13, Tryz.ntmps13
  go_wp2_with fail
  refine J.out.mono ?_
  rintro e w1 ⟨rfl, k1⟩
  have K1 := Lib.hid k1
  clear k1 J
  go_wp2_with fail
  go_ret2
  exact ⟨rfl, K1.out⟩
end Go.Proofs.YtcbifoimfhfccaaGreatDoor

/- loanwordref02.Lines; LexLines, walked. -/
import Derived.Test.YtcbifoimfhfccaaDoorLexZb
namespace Go.Proofs.YtcbifoimfhfccaaDoor
open Go.RowKit

theorem sInfo : (Tryd.prog.info? 9).map (fun i => (i.zero, i.size, i.bytes)) = some (some (.string ⟨#[]⟩), 1, 16) := by kernel_rfl
set_option maxRecDepth 100000 in
set_option maxHeartbeats 8000000 in
theorem rlines_any (s : ByteArray) (hs : s.size ≤ 65536) (w : World) :
    Calls Tryd.prog 20 #[.string s] w fun e w' => ∃ v, e = .returned (.tuple #[v, .int .i64 0]) ∧ w'.ownsRow w.heap.size 9 1 v (linesS s).length ((linesS s).map Value.string) ∧ KB F0 w w' := by
  obtain ⟨w0, rfl⟩ : ∃ w0, w0 = w := ⟨_, rfl⟩
  have d1 : decide ((65536 : Int) < (s.size : Int)) = false := decide_eq_false (by omega)
  obtain ⟨L, hL⟩ : ∃ L, L = linesS s := ⟨_, rfl⟩
  rw [← hL]
  have HL := Lib.hid hL
  clear hL
  go_enter Tryd.func20, Tryd.ntmps20
  go_wp2_with fail
  go_loopw [4, 5, 6] (fun lv fv jv wr => ∃ j : Nat, j ≤ s.size ∧ fv = .int .i64 ((linF s j).2 : Nat) ∧ jv = .int .i64 (j : Nat) ∧ Hid (wr.ownsRow w0.heap.size 9 1 lv (linF s j).1.length ((linF s j).1.map Value.string) ∧ KB F0 w0 wr)) (fun _ _ jv _ => s.size - (intOf jv).toNat)
  case atStart => exact ⟨0, by omega, rfl, rfl, Lib.hid ⟨World.ownsRow_nil _ _ _ _, KB.refl _ _⟩⟩
  case round =>
    obtain ⟨j, hj, rfl, rfl, hst⟩ := hrel
    have hin := linF_inv s j hj
    have hfj := hin.1
    have hlen : (linF s j).1.length ≤ j := by have h4 := hin.2.2.2.1; have := lnF_le s j; omega
    by_cases hlt : j < s.size
    · have d2 : decide ((j : Int) < (s.size : Int)) = true := decide_eq_true (by omega)
      have hb := byteAt_eq s j hlt
      have ij : (j : Int) < (s.size : Int) := by omega
      have i2 : (j : Int) ≤ (s.size : Int) := by omega
      by_cases h10 : byteAt s j = 10
      · have d5 : ((byteAt s j : Int) == 10) = true := by simp; omega
        have HN : Hid ((linF s (j + 1)).1 = (linF s j).1 ++ [s.extract (linF s j).2 j] ∧ (linF s (j + 1)).2 = j + 1) := Lib.hid (by rw [linF, if_pos h10]; exact ⟨rfl, rfl⟩)
        generalize (linF s j).1 = l at hst hlen HN
        generalize (linF s j).2 = f at hfj HN ⊢
        have i3 : (f : Int) ≤ (j : Int) := by omega
        generalize byteAt s j = c at hb d5
        clear hin h10
        go_wp2_with (at_builtin; refine Stopped.out ?_)
        refine ⟨?_⟩
        refine app1 46 9 w0.heap.size (.string (s.extract f j)) sInfo Tryd.underlying46 rfl (own_kb hst.out.1 ((KB.refl F0 wr).alloc _) (fun _ _ x => x)) rfl rfl rfl rfl (blk_cell (alloc_new wr _) 0) rfl (by unfold maxLen; omega) (by omega) (by have := hst.out.2.size; simp; omega) ?_
        intro v1 w1 hown1 hgr1
        have hownA := own_kb hst.out.1 ((KB.refl F0 wr).alloc (.cells #[.string (s.extract f j)] 9)) (fun _ _ x => x)
        have hk1 : KB F0 w0 w1 := (hst.out.2.alloc _).grown hgr1 (own_ge hownA (Nat.le_refl _))
        have HM : Hid (w1.ownsRow w0.heap.size 9 1 v1 (linF s (j + 1)).1.length ((linF s (j + 1)).1.map Value.string) ∧ KB F0 w0 w1) := Lib.hid ⟨by rw [HN.out.1, List.length_append, List.length_singleton, List.map_append]; exact hown1, hk1⟩
        clear hown1 hgr1 hk1 hownA
        go_wp2_with fail
        refine ⟨⟨j + 1, by omega, by rw [HN.out.2]; go_num, by go_num, HM⟩, by simp [intOf]; omega⟩
      · have d5 : ((byteAt s j : Int) == 10) = false := by simp; omega
        have HN : Hid (linF s (j + 1) = linF s j) := Lib.hid (by rw [linF, if_neg h10])
        have HM : Hid (Hid (∀ x, x = linF s j → x = linF s j)) := Lib.hid (Lib.hid fun _ h => h)
        generalize byteAt s j = c at hb d5
        clear h10 hin HM
        go_wp2_with fail
        refine ⟨⟨j + 1, by omega, by rw [HN.out], by go_num, by rw [HN.out]; exact hst⟩, by simp [intOf]; omega⟩
    · obtain rfl : j = s.size := by omega
      have d2 : decide ((s.size : Int) < (s.size : Int)) = false := decide_eq_false (by omega)
      have HN : Hid (L = (linF s s.size).1 ++ [s.extract (linF s s.size).2 s.size]) := Lib.hid HL.out
      generalize (linF s s.size).1 = l at hst hlen HN
      generalize (linF s s.size).2 = f at hfj HN ⊢
      have i3 : (f : Int) ≤ (s.size : Int) := by omega
      clear hin
      go_wp2_with (at_builtin; refine Stopped.out ?_)
      refine ⟨?_⟩
      refine app1 46 9 w0.heap.size (.string (s.extract f s.size)) sInfo Tryd.underlying46 rfl (own_kb hst.out.1 ((KB.refl F0 wr).alloc _) (fun _ _ x => x)) rfl rfl rfl rfl (blk_cell (alloc_new wr _) 0) rfl (by unfold maxLen; omega) (by omega) (by have := hst.out.2.size; simp; omega) ?_
      intro v1 w1 hown1 hgr1
      have hownA := own_kb hst.out.1 ((KB.refl F0 wr).alloc (.cells #[.string (s.extract f s.size)] 9)) (fun _ _ x => x)
      have hk1 : KB F0 w0 w1 := (hst.out.2.alloc _).grown hgr1 (own_ge hownA (Nat.le_refl _))
      have HM : Hid (w1.ownsRow w0.heap.size 9 1 v1 L.length (L.map Value.string) ∧ KB F0 w0 w1) := Lib.hid ⟨by rw [HN.out, List.length_append, List.length_singleton, List.map_append]; exact hown1, hk1⟩
      obtain ⟨va, vc, rfl, -⟩ := own_shape hown1
      clear hown1 hgr1 hk1 hownA
      go_wp2_with fail
      go_ret2
      exact ⟨_, rfl, HM.out⟩
set_option maxRecDepth 100000 in
theorem rlines_long (s : ByteArray) (hs : 65536 < s.size) (w : World) :
    Calls Tryd.prog 20 #[.string s] w fun e w' => e = .returned (.tuple #[.slice none 0 0, .int .i64 3]) ∧ w = w' := by
  have d1 : decide ((65536 : Int) < (s.size : Int)) = true := decide_eq_true (by omega)
  clear hs
  go_enter Tryd.func20, Tryd.ntmps20
  go_wp2_with fail
  go_ret2
  exact ⟨rfl, rfl⟩
set_option maxRecDepth 100000 in
set_option maxHeartbeats 16000000 in
theorem llines_any (s : ByteArray) (at_ : Int) (hs0 : s.size ≤ 9223372036854775807) (w : World) (hT : Tab w) : Calls Tryd.prog 5 #[.string s, .int .i64 at_] w fun e w' => e = .returned (.bool true) ∧ KB F0 w w' := by
  obtain ⟨w0, rfl⟩ : ∃ w0, w0 = w := ⟨_, rfl⟩
  have AW := Lib.hid (fun (W : World) (hk : KB F0 w0 W) => awake_any W (hT.kb hk))
  by_cases hbig : 131072 < s.size
  · have d1 : decide ((131072 : Int) < (s.size : Int)) = true := decide_eq_true (by omega)
    clear hbig hT
    go_enter Tryd.func5, Tryd.ntmps5
    go_wp2_with fail
    refine (AW.out _ (KB.refl _ _)).mono ?_
    rintro e w1 ⟨rfl, k1⟩
    have K := Lib.hid k1
    clear k1
    go_wp2_with fail
    go_ret
    exact ⟨rfl, K.out⟩
  have d1 : decide ((131072 : Int) < (s.size : Int)) = false := decide_eq_false (by omega)
  have LN := Lib.hid (fun (W : World) => line_any s at_ hs0 W)
  have RN := Lib.hid (fun (W : World) => rline_any s at_ hs0 W)
  generalize lineS s at_ = O at LN RN
  obtain ⟨n, c, no⟩ := O
  simp only at LN RN
  by_cases hlong : 65536 < s.size
  · have LS := Lib.hid (fun (W : World) => lines_long s hlong W)
    have RS := Lib.hid (fun (W : World) => rlines_long s hlong W)
    clear hbig hT hlong hs0
    go_enter Tryd.func5, Tryd.ntmps5
    go_wp2_with fail
    refine (LN.out _).mono ?_
    rintro e w1 ⟨rfl, rfl⟩
    go_wp2_with fail
    refine (RN.out _).mono ?_
    rintro e w2 ⟨rfl, k2⟩
    have K2 := Lib.hid k2
    clear k2
    go_wp2_with fail
    refine (LS.out _).mono ?_
    rintro e w3 ⟨rfl, rfl⟩
    go_wp2_with fail
    refine (RS.out _).mono ?_
    rintro e w3 ⟨rfl, rfl⟩
    go_wp2_with fail
    go_loopw [13] (fun kv wr => kv = .int .i64 0 ∧ wr = w2) (fun _ _ => 0)
    case atStart => exact ⟨rfl, rfl⟩
    case round =>
      obtain ⟨rfl, rfl⟩ := hrel
      go_wp2_with fail
      refine (AW.out _ K2.out).mono ?_
      rintro e w4 ⟨rfl, k4⟩
      have K := Lib.hid (K2.out.trans k4)
      clear k4
      go_wp2_with fail
      go_ret
      exact ⟨rfl, K.out⟩
  · obtain ⟨m, hm⟩ := hT.len
    have LS := Lib.hid (fun (W : World) (hk : KB F0 w0 W) => lines_any s (by omega) W m (hk.cell (p := ⟨0, 0, none⟩) (fun x => x) hm))
    have RS := Lib.hid (fun (W : World) => rlines_any s (by omega) W)
    have hcount : (linesS s).length ≤ 70000 := by
      unfold linesS
      have h4 := (linF_inv s s.size (Nat.le_refl _)).2.2.2.1
      have := lnF_le s s.size
      rw [List.length_append, List.length_singleton]
      omega
    generalize linesS s = L at LS RS hcount
    obtain ⟨N, hN⟩ : ∃ N, N = L.length := ⟨_, rfl⟩
    rw [← hN] at LS RS hcount
    have HN := Lib.hid hN
    clear hbig hT hlong hs0 hm hN
    go_enter Tryd.func5, Tryd.ntmps5
    go_wp2_with fail
    refine (LN.out _).mono ?_
    rintro e w1 ⟨rfl, rfl⟩
    go_wp2_with fail
    refine (RN.out _).mono ?_
    rintro e w2 ⟨rfl, k2⟩
    have K2 := Lib.hid k2
    clear k2
    go_wp2_with fail
    refine (LS.out _ K2.out).mono ?_
    rintro e w3 ⟨g, rfl, hsl, k3⟩
    have K3 := Lib.hid (And.intro hsl (K2.out.trans k3))
    clear k3 hsl
    go_wp2_with fail
    refine (RS.out _).mono ?_
    rintro e w4 ⟨v, rfl, hown, k4⟩
    obtain ⟨a, cap, rfl, hle, hm, hcell, -⟩ := own_shape hown
    have K4 := Lib.hid (And.intro (show SL w4 g L from k4.heap (fun x => x) K3.out.1) (And.intro (K3.out.2.trans k4) hcell))
    clear k4 hown hcell hle hm
    go_wp2_with fail
    go_loopw [13] (fun kv wr => ∃ k : Nat, k ≤ N ∧ kv = .int .i64 k ∧ KB F0 w4 wr) (fun kv _ => N - (intOf kv).toNat)
    case atStart => exact ⟨0, by omega, rfl, KB.refl _ _⟩
    case round =>
      obtain ⟨k, hk, rfl, hkb⟩ := hrel
      by_cases hlt : k < N
      · have d2 : decide ((k : Int) < (N : Int)) = true := decide_eq_true (by omega)
        have hkL : k < L.length := by rw [← HN.out]; exact hlt
        have x1 := hkb.cell (p := ⟨g, k, none⟩) (fun x => x) (K4.out.1.cell hkL)
        obtain ⟨g2, rfl, -, hc2⟩ := K4.out.2.2 k (by omega)
        have hc3 : w4.cell? ⟨g2, k, none⟩ = some (.string (L.getD k ByteArray.empty)) := by
          rw [hc2, List.getElem?_map, List.getD_eq_getElem?_getD, List.getElem?_eq_getElem hkL]
          rfl
        have x2 := hkb.cell (p := ⟨g2, k, none⟩) (fun x => x) hc3
        generalize L.getD k ByteArray.empty = x at x1 x2
        have HK := Lib.hid hkb
        have i1 : (k : Int) < (N : Int) := by omega
        clear hc2 hc3 hkL hkb
        go_wp2_with fail
        refine wp_region_rv 9 GQ (kindV []) (by kernel_rfl) (by kernel_rfl) GQ.trans GQ.refl (GQ.start _) (kindV_mono _) ?_
        simp only [List.take_succ_cons, List.take_zero, List.drop_succ_cons, List.drop_zero]
        iterate 9 (refine rv_det (by kernel_rfl) rfl (by intro w hG hH; obtain ⟨n, rfl⟩ := hG; go_simp; first | done | with_reducible rfl) ?_; simp only [Act.put, List.setIfInBounds_toArray, List.set_cons_zero, List.set_cons_succ])
        refine rv_nil (fun w hG hH => ?_)
        obtain ⟨n, rfl⟩ := hG
        clear hH
        go_wp2_with fail
        refine ⟨⟨k + 1, by omega, by go_num, HK.out.drewN _⟩, by simp [intOf]; omega⟩
      · obtain rfl : k = N := by omega
        have d2 : decide ((k : Int) < (k : Int)) = false := decide_eq_false (by omega)
        have HK := Lib.hid (K4.out.2.1.trans hkb)
        clear hkb
        go_wp2_with fail
        refine (AW.out _ HK.out).mono ?_
        rintro e w5 ⟨rfl, k5⟩
        have K := Lib.hid (HK.out.trans k5)
        clear k5
        go_wp2_with fail
        go_ret
        exact ⟨rfl, K.out⟩
end Go.Proofs.YtcbifoimfhfccaaDoor

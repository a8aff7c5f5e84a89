/- LexGoes, walked: where a text is stuck. -/
import Derived.Test.YtcbifoimfhfccaaDoorLexGo
namespace Go.Proofs.YtcbifoimfhfccaaDoor
open Go.RowKit

def endsL : List ByteArray := [⟨#[]⟩, ⟨#[97]⟩, ⟨#[38]⟩, ⟨#[124]⟩]
/-- Does the text ahead go on with one of the first k endings? -/
def okF (s : ByteArray) (p : Nat) (k : Nat) : Bool := (List.range k).any fun j => decide ((lexS (s.extract 0 p ++ endsL.getD j ByteArray.empty)).2.2 = 0)
theorem okF_succ (s : ByteArray) (p k : Nat) : okF s p (k + 1) = (okF s p k || decide ((lexS (s.extract 0 p ++ endsL.getD k ByteArray.empty)).2.2 = 0)) := by
  unfold okF
  rw [List.range_succ, List.any_append]
  simp
theorem okF_all {s : ByteArray} {p : Nat} (h : (lexS (s.extract 0 p ++ ByteArray.empty)).2.2 = 0 ∨ (lexS (s.extract 0 p ++ ⟨#[97]⟩)).2.2 = 0 ∨ (lexS (s.extract 0 p ++ ⟨#[124]⟩)).2.2 = 0) : okF s p 4 = true := by
  unfold okF
  rw [List.any_eq_true]
  rcases h with h | h | h
  · exact ⟨0, by decide, decide_eq_true h⟩
  · exact ⟨1, by decide, decide_eq_true h⟩
  · exact ⟨3, by decide, decide_eq_true h⟩
set_option maxRecDepth 100000 in
set_option maxHeartbeats 16000000 in
theorem goes_err (s u : ByteArray) (hs : s.size ≤ 16384) (hu : u.size ≤ 16384) (hbad : (lexS s).2.2 ≠ 0) (w : World) (hT : Tab w) : Calls Tryd.prog 6 #[.string s, .string u] w fun e w' => e = .returned (.bool true) ∧ KB F0 w w' := by
  obtain ⟨w0, rfl⟩ : ∃ w0, w0 = w := ⟨_, rfl⟩
  have AW := Lib.hid (fun (W : World) (hk : KB F0 w0 W) => awake_any W (hT.kb hk))
  have d1 : decide ((16384 : Int) < (s.size : Int)) = false := decide_eq_false (by omega)
  have d1' : ¬ (16384 < s.size) := by omega
  have d2 : decide ((16384 : Int) < (u.size : Int)) = false := decide_eq_false (by omega)
  have d2' : ¬ (16384 < u.size) := by omega
  obtain ⟨h20, hps, hends⟩ := goes_cut hs hbad
  have hok := okF_all hends
  have HSTAY := Lib.hid (fun (hp : (lexS s).2.1 < s.size) => goes_stay hs hbad hp u hu)
  have LS := Lib.hid (lexT_any s (by omega) w0 hT)
  have LX := Lib.hid (fun (x : ByteArray) (hx : x.size ≤ 9223372036854775807) (W : World) (hk : KB F0 w0 W) => lexT_any x hx W (hT.kb hk))
  rw [h20] at LS
  generalize (lexS s).1 = ts at LS
  generalize (lexS s).2.1 = p at LS HSTAY hok hps
  have HOK := Lib.hid hok
  have HSZ := Lib.hid (And.intro hs (And.intro hu hps))
  have hz0 : (s.extract 0 p).size = p := by have := size_ext s (a := 0) (n := p) (by omega); rw [Nat.zero_add] at this; exact this
  have HZ0 := Lib.hid hz0
  have e1 : decide ((p : Int) < 0) = false := decide_eq_false (by omega)
  have e2 : decide ((s.size : Int) < (p : Int)) = false := decide_eq_false (by omega)
  have e2' : ¬ (s.size < p) := by omega
  have i1 : (p : Int) ≤ (s.size : Int) := by omega
  have i2 : min p s.size = p := by omega
  clear h20 hends hbad hok hs hu hT hz0 hps
  generalize ts.length = M at LS
  go_enter Tryd.func6, Tryd.ntmps6
  go_wp2_with fail
  refine LS.out.mono ?_
  rintro e w1 ⟨a, c, rfl, -, k1⟩
  have K1 := Lib.hid k1
  clear k1 LS
  obtain ⟨W2, hW2⟩ : ∃ W2, W2 = w1.alloc (.cells #[.string ⟨#[]⟩, .string ⟨#[97]⟩, .string ⟨#[38]⟩, .string ⟨#[124]⟩] 52) := ⟨_, rfl⟩
  have HE : Hid (W2.heap[w1.heap.size]? = some (.cells #[.string ⟨#[]⟩, .string ⟨#[97]⟩, .string ⟨#[38]⟩, .string ⟨#[124]⟩] 52 (0, 0)) ∧ KB F0 w0 W2) := Lib.hid (by rw [hW2]; exact ⟨alloc_new _ _, K1.out.alloc _⟩)
  go_wp2_with fail
  rw [← hW2]
  clear hW2
  go_loopw [16, 17] (fun ov iv wr => ∃ i : Nat, i ≤ 4 ∧ ov = .bool (okF s p i) ∧ iv = .int .i64 (i : Nat) ∧ KB F0 W2 wr) (fun _ iv _ => 4 - (intOf iv).toNat)
  case atStart => exact ⟨0, by omega, rfl, rfl, KB.refl _ _⟩
  case round =>
    obtain ⟨i, hi, rfl, rfl, hkb⟩ := hrel
    by_cases hlt : i < 4
    · have f1 : decide ((i : Int) < 4) = true := decide_eq_true (by omega)
      have f1' : i < 4 := hlt
      have f2 : (i : Int) < 4 := by omega
      have hE := hkb.heap (fun x => x) HE.out.1
      have x1 : wr.cell? ⟨w1.heap.size, i, none⟩ = some (.string (endsL.getD i ByteArray.empty)) := by
        rw [blk_cell hE]
        have hc : i = 0 ∨ i = 1 ∨ i = 2 ∨ i = 3 := by omega
        rcases hc with rfl | rfl | rfl | rfl <;> rfl
      have hxz : (endsL.getD i ByteArray.empty).size ≤ 1 := by
        have hc : i = 0 ∨ i = 1 ∨ i = 2 ∨ i = 3 := by omega
        rcases hc with rfl | rfl | rfl | rfl <;> decide
      have HS := Lib.hid (okF_succ s p i)
      have HKB := Lib.hid (HE.out.2.trans hkb)
      have hkb0 := Lib.hid hkb
      generalize endsL.getD i ByteArray.empty = x at x1 hxz HS
      obtain ⟨y, hy⟩ : ∃ y, y = s.extract 0 p := ⟨_, rfl⟩
      have hyz : y.size = p := by rw [hy]; exact HZ0.out
      have L := Lib.hid (LX.out (y ++ x) (by rw [ByteArray.size_append, hyz]; have := HSZ.out; omega))
      rw [← hy] at HS
      rw [hy] at L
      have HS2 : Hid (okF s p (i + 1) = (okF s p i || decide ((lexS (s.extract 0 p ++ x)).2.2 = 0))) := Lib.hid (by have := HS.out; rw [hy] at this; exact this)
      generalize lexS (s.extract 0 p ++ x) = O at L HS2
      obtain ⟨us, q, f⟩ := O
      simp only at L HS2
      have z1 : ¬ (p + x.size > 9223372036854775807) := by have := HSZ.out; omega
      have z2 : ¬ (9223372036854775807 < p + x.size) := z1
      have z3 : ¬ ((s.extract 0 p).size + x.size > 9223372036854775807) := by rw [HZ0.out]; exact z1
      have z4 : ¬ ((9223372036854775807 : Int) < (p : Int) + (x.size : Int)) := by omega
      clear hE hxz hy hyz HS hkb
      generalize us.length = M2 at L
      go_wp2_with fail
      refine wp_region_rv 15 GK (kindW [(7, (fun v => ∃ a2 c2, v = .tuple #[.slice a2 M2 c2, .int .i64 (q : Nat), .int .i64 (f : Nat)]), (fun _ _ => True))]) (by kernel_rfl) (by kernel_rfl) (kb_trans _) (kb_refl _) (kb_start _ _) (kindW_mono _ (by intro p hp; simp only [List.mem_cons, List.not_mem_nil, or_false] at hp; subst hp; exact lasts_true)) ?_
      simp only [List.take_succ_cons, List.take_zero, List.drop_succ_cons, List.drop_zero]
      iterate 5 (refine rv_det (by kernel_rfl) rfl (by intro w hG hH; go_simp; first | done | with_reducible rfl) ?_; simp only [Act.put, List.setIfInBounds_toArray, List.set_cons_zero, List.set_cons_succ])
      refine rv_det (by kernel_rfl) rfl (by intro w hG hH; have hc0 := KB.cell hG (fun x => x) (x1); go_simp; first | done | with_reducible rfl) ?_
      simp only [Act.put, List.setIfInBounds_toArray, List.set_cons_zero, List.set_cons_succ]
      refine rv_det (by kernel_rfl) rfl (by intro w hG hH; go_simp; first | done | with_reducible rfl) ?_
      simp only [Act.put, List.setIfInBounds_toArray, List.set_cons_zero, List.set_cons_succ]
      refine rv_rel (by kernel_rfl) rfl ⟨_, none, 0, rfl⟩ (by
        intro w hG hH
        refine opVal_call (by go_simp; first | done | exact ⟨⟨rfl, rfl⟩, rfl⟩) ?_
        refine (L.out _ (HKB.out.trans hG)).mono ?_
        rintro e w' ⟨a2, c2, rfl, -, hq⟩
        exact ⟨_, rfl, ⟨a2, c2, rfl⟩, hq, trivial⟩) ?_
      rintro v ⟨a2, c2, rfl⟩
      simp only [Act.put, List.setIfInBounds_toArray, List.set_cons_zero, List.set_cons_succ]
      iterate 7 (refine rv_det (by kernel_rfl) rfl (by intro w hG hH; go_simp; first | done | with_reducible rfl) ?_; simp only [Act.put, List.setIfInBounds_toArray, List.set_cons_zero, List.set_cons_succ])
      refine rv_nil (fun w hG hH => ?_)
      have HG := Lib.hid hG
      clear hG hH x1
      obtain ⟨r, hr⟩ : ∃ r, r = okF s p i := ⟨_, rfl⟩
      rw [← hr] at HS2 ⊢
      clear hr
      by_cases hf : f = 0
      · have d5 : ((f : Int) == 0) = true := by simp; omega
        have HS3 : Hid (okF s p (i + 1) = true) := Lib.hid (by rw [HS2.out, decide_eq_true hf, Bool.or_true])
        clear hf HS2
        cases r
        all_goals
          go_wp2_with fail
          refine ⟨⟨i + 1, by omega, by rw [HS3.out], by go_num, (hkb0.out).trans HG.out⟩, by simp [intOf]; omega⟩
      · have d5 : ((f : Int) == 0) = false := by simp; omega
        have HS3 : Hid (okF s p (i + 1) = r) := Lib.hid (by rw [HS2.out, decide_eq_false hf, Bool.or_false])
        clear hf HS2
        cases r
        all_goals
          go_wp2_with fail
          refine ⟨⟨i + 1, by omega, by rw [HS3.out], by go_num, (hkb0.out).trans HG.out⟩, by simp [intOf]; omega⟩
    · obtain rfl : i = 4 := by omega
      have HKB := Lib.hid (HE.out.2.trans hkb)
      rw [HOK.out]
      clear hkb
      by_cases hps : p < s.size
      · have L := Lib.hid (LX.out (s.extract 0 (p + 1) ++ u) (by rw [ByteArray.size_append, ByteArray.size_extract]; have := HSZ.out; omega))
        rw [HSTAY.out hps] at L
        simp only at L
        have f1 : decide ((p : Int) < (s.size : Int)) = true := decide_eq_true (by omega)
        have f1' : p < s.size := hps
        obtain ⟨p1, hp1⟩ : ∃ p1, p1 = p + 1 := ⟨_, rfl⟩
        rw [← hp1] at L
        have w1 : IntKind.i64.wrap ((p : Int) + 1) = (p1 : Int) := by rw [w64 (by omega) (by have := HSZ.out; omega)]; omega
        have i3 : (p1 : Int) ≤ (s.size : Int) := by omega
        have hpz : (s.extract 0 p1).size = p1 := by have := size_ext s (a := 0) (n := p1) (by omega); rw [Nat.zero_add] at this; exact this
        have i4 : min p1 s.size = p1 := by omega
        have z1 : ¬ (p1 + u.size > 9223372036854775807) := by have := HSZ.out; omega
        have z2 : ¬ (9223372036854775807 < p1 + u.size) := z1
        have z3 : ¬ ((s.extract 0 p1).size + u.size > 9223372036854775807) := by rw [hpz]; exact z1
        clear hp1 hps hpz
        go_wp2_with fail
        refine (L.out _ HKB.out).mono ?_
        rintro e w2 ⟨a2, c2, rfl, -, k2⟩
        have K2 := Lib.hid (HKB.out.trans k2)
        clear k2
        go_wp2_with fail
        refine (AW.out _ K2.out).mono ?_
        rintro e w3 ⟨rfl, k3⟩
        have K3 := Lib.hid (K2.out.trans k3)
        clear k3
        go_wp2_with fail
        go_ret
        exact ⟨rfl, K3.out⟩
      · have f1 : decide ((p : Int) < (s.size : Int)) = false := decide_eq_false (by omega)
        go_wp2_with fail
        refine (AW.out _ HKB.out).mono ?_
        rintro e w3 ⟨rfl, k3⟩
        have K3 := Lib.hid (HKB.out.trans k3)
        clear k3
        go_wp2_with fail
        go_ret
        exact ⟨rfl, K3.out⟩
set_option maxRecDepth 100000 in
set_option maxHeartbeats 8000000 in
theorem goes_any (s u : ByteArray) (w : World) (hT : Tab w) : Calls Tryd.prog 6 #[.string s, .string u] w fun e w' => e = .returned (.bool true) ∧ KB F0 w w' := by
  by_cases hbig : 16384 < s.size ∨ 16384 < u.size
  · obtain ⟨w0, rfl⟩ : ∃ w0, w0 = w := ⟨_, rfl⟩
    have AW := Lib.hid (fun (W : World) (hk : KB F0 w0 W) => awake_any W (hT.kb hk))
    clear hT
    by_cases h1 : 16384 < s.size
    · have d1 : decide ((16384 : Int) < (s.size : Int)) = true := decide_eq_true (by omega)
      clear hbig
      go_enter Tryd.func6, Tryd.ntmps6
      go_wp2_with fail
      refine (AW.out _ (KB.refl _ _)).mono ?_
      rintro e w1 ⟨rfl, k1⟩
      have K := Lib.hid k1
      clear k1
      go_wp2_with fail
      go_ret
      exact ⟨rfl, K.out⟩
    · have h2 : 16384 < u.size := by omega
      have d1 : decide ((16384 : Int) < (s.size : Int)) = false := decide_eq_false (by omega)
      have d2 : decide ((16384 : Int) < (u.size : Int)) = true := decide_eq_true (by omega)
      clear hbig
      go_enter Tryd.func6, Tryd.ntmps6
      go_wp2_with fail
      refine (AW.out _ (KB.refl _ _)).mono ?_
      rintro e w1 ⟨rfl, k1⟩
      have K := Lib.hid k1
      clear k1
      go_wp2_with fail
      go_ret
      exact ⟨rfl, K.out⟩
  · by_cases hok : (lexS s).2.2 = 0
    · exact goes_ok s u (by omega) (by omega) hok w hT
    · exact goes_err s u (by omega) (by omega) hok w hT
end Go.Proofs.YtcbifoimfhfccaaDoor

/- loanwordlaw03.awake. -/
import Derived.Test.YtjefoojkgocinaaDoorTrSame
namespace Go.Proofs.YtjefoojkgocinaaDoor
open Go.RowKit

def ndA : Nd := ⟨24, 0, 5, ByteArray.empty, []⟩
def ndB (l : List Int) : Nd := ⟨30, 0, 0, ByteArray.empty, l⟩
theorem aw_a : joinE ndA [] = 0 ∧ joinT ndA [] = [ndA] := by
  have h : chk [ndA] = 0 := by decide +kernel
  have e : joinN ndA [] = [ndA] := rfl
  have e2 : joinE ndA [] = 0 := by unfold joinE; rw [e]; exact h
  exact ⟨e2, by rw [joinT, if_pos e2, e]⟩
theorem aw_b : joinE (ndB [7]) [[ndA]] = 0 ∧ joinT (ndB [7]) [[ndA]] = [ndB [1], ndA] := by
  have h : chk [ndB [1], ndA] = 0 := by decide +kernel
  have hm : ([[ndA]] : List (List Nd)).all mayN = true := by decide +kernel
  have e : joinN (ndB [7]) [[ndA]] = [ndB [1], ndA] := rfl
  have e2 : joinE (ndB [7]) [[ndA]] = 0 := by
    unfold joinE
    rw [if_pos hm, e, if_neg (by decide)]; exact h
  exact ⟨e2, by rw [joinT, if_pos e2, e]⟩
theorem aw_c : joinE (ndB []) [] = 30 := by
  have h : chk [ndB []] = 30 := by decide +kernel
  unfold joinE
  exact h
theorem aw_may : mayN [ndB [1], ndA] = true := by decide +kernel
theorem aw_d : subE [ndB [1], ndA] 1 = 0 ∧ subT [ndB [1], ndA] 1 = [ndA] := by
  have h : subOk [ndB [1], ndA] 1 = true := by rw [subOk, aw_may]; rfl
  refine ⟨by rw [subE, if_pos h], ?_⟩
  rw [subT, if_pos h]
  have h2 : En [ndB [1], ndA] 1 = 2 := by decide +kernel
  show subN [ndB [1], ndA] 1 = _
  unfold subN
  rw [h2]; rfl
theorem aw_deep : deepR [ndB [1], ndA] = 2 := by
  rw [deepR, if_pos aw_may]
  decide +kernel
theorem aw_same : sameN [ndA] [ndA] = true := by
  have h : mayN [ndA] = true := by decide +kernel
  unfold sameN
  rw [h]
  decide +kernel
theorem aw_ok : NdOk ndA := ⟨by decide, by decide, by decide, by decide, by decide, by decide, fun c h => by cases h⟩
theorem aw_okb {l : List Int} (h : ∀ c ∈ l, -9223372036854775808 ≤ c ∧ c ≤ 9223372036854775807) : NdOk (ndB l) := ⟨by show (30:Nat) < 256; decide, by show (-9223372036854775808 : Int) ≤ 0; decide, by show (0 : Int) ≤ 9223372036854775807; decide, by show (-9223372036854775808 : Int) ≤ 0; decide, by show (0 : Int) ≤ 9223372036854775807; decide, by show ByteArray.empty.size ≤ _; decide, h⟩

theorem OwnTs.shape {w : World} {B : Nat} {v : Value} {ts : List Nd} {ls : List Value} (h : OwnTs w B v ts ls) (h0 : 0 < ts.length) : ∃ g c, v = .slice (some ⟨g, 0, none⟩) ts.length c ∧ B ≤ g := by
  obtain ⟨a, c, rfl, hn, -, -, ha⟩ := h.nodes
  rcases ha with rfl | ⟨g, rfl, hb⟩
  · obtain ⟨b, o, e, -⟩ := hn 0 h0
    cases e
  · exact ⟨g, c, rfl, hb⟩
theorem equalIn_nil (d : Nat) (f : Fn) (a b : Array Value) (w : World) : (Op.equalIn (d + 1) 51 (.func f a b) Value.nilFunc).run Tryd.prog w = .ok false w := by
  unfold Op.equalIn
  simp only [Sem.run_bind, run_underlying Tryd.underlying51, Result.andThen_ok]
  rfl
theorem neq_nil (f : Fn) (a b : Array Value) (w : World) : (binOp BinOp.neq 51 (.func f a b) Value.nilFunc).run Tryd.prog w = .ok (.bool true) w := by
  simp only [binOp, Op.equal, Sem.run_bind]
  rw [show Op.maxDepth = 9999 + 1 from rfl, equalIn_nil]
  rfl
set_option maxRecDepth 100000 in
set_option maxHeartbeats 8000000 in
theorem awake_any (w : World) (hT : Tab w) : Calls Tryd.prog 8 #[] w fun e w' => e = .returned (.bool true) ∧ KB F0 w w' := by
  obtain ⟨w0, rfl⟩ : ∃ w0, w0 = w := ⟨_, rfl⟩
  have hT0 := Lib.hid hT
  clear hT
  go_enter Tryd.func8, Tryd.ntmps8
  have JA : Hid (∀ W, KB F0 w0 W → Calls Tryd.prog 11 #[.agg #[.int .u8 24, .int .i64 0, .int .i64 5, .string { data := #[] }, .slice none 0 0], .slice none 0 0] W fun e w' => ∃ v ls, e = .returned (.tuple #[.agg #[v], .int .i64 0]) ∧ OwnTs w' W.heap.size v [ndA] ls ∧ KB F0 W w') := Lib.hid (fun W hW => by
    have h := join_any ndA aw_ok none 0 0 [] (by decide) (fun c hc => by cases hc) (fun c hc => by cases hc) none 0 W (fun k hk => by cases hk) (hT0.out.kb hW)
    rw [aw_a.1, aw_a.2] at h
    exact h)
  have JC : Hid (∀ W, KB F0 w0 W → Calls Tryd.prog 11 #[.agg #[.int .u8 30, .int .i64 0, .int .i64 0, .string { data := #[] }, .slice none 0 0], .slice none 0 0] W fun e w' => ∃ v ls, e = .returned (.tuple #[.agg #[v], .int .i64 30]) ∧ OwnTs w' W.heap.size v (joinT (ndB []) []) ls ∧ KB F0 W w') := Lib.hid (fun W hW => by
    have h := join_any (ndB []) (aw_okb (fun c hc => by cases hc)) none 0 0 [] (by decide) (fun c hc => by cases hc) (fun c hc => by cases hc) none 0 W (fun k hk => by cases hk) (hT0.out.kb hW)
    rw [aw_c] at h
    exact h)
  have JB : Hid (∀ W nb g ls lc nl, KB F0 w0 W → OwnTs W w0.heap.size (.slice (some ⟨g, 0, none⟩) 1 lc) [ndA] ls → W.heap[nb]? = some (.cells #[.slice (some ⟨g, 0, none⟩) 1 lc] 31 (0, 0)) →
      Calls Tryd.prog 11 #[.agg #[.int .u8 30, .int .i64 0, .int .i64 0, .string { data := #[] }, .slice (some ⟨nl, 0, none⟩) 1 1], .slice (some ⟨nb, 0, none⟩) 1 1] W fun e w' => ∃ v ls, e = .returned (.tuple #[.agg #[v], .int .i64 0]) ∧ OwnTs w' W.heap.size v [ndB [1], ndA] ls ∧ KB F0 W w') := Lib.hid (fun W nb g ls lc nl hW hown hnb => by
    obtain ⟨a1, c1, e, hn, h1, h2, -⟩ := hown.nodes
    simp only [Value.slice.injEq] at e
    obtain ⟨rfl, -, rfl⟩ := e
    have h := join_any (ndB [7]) (aw_okb (fun c hc => by rw [List.mem_singleton] at hc; subst hc; decide)) (some ⟨nl, 0, none⟩) 1 1 [[ndA]] (by decide) (fun c hc => by rw [List.mem_singleton] at hc; subst hc; decide) (fun c hc => by
      rw [List.mem_singleton] at hc; subst hc; intro x hx; rw [List.mem_singleton] at hx; subst hx; exact aw_ok) (some ⟨nb, 0, none⟩) 1 W (fun k hk => by
      obtain rfl : k = 0 := by simp at hk; omega
      exact ⟨nb, 0, rfl, some ⟨g, 0, none⟩, lc, blk_cell hnb 0, hn, h1, h2⟩) (hT0.out.kb hW)
    rw [aw_b.1, aw_b.2] at h
    exact h)
  have okb : ∀ x ∈ [ndB [1], ndA], NdOk x := fun x hx => by
    rcases List.mem_cons.1 hx with rfl | hx
    · exact aw_okb (fun c hc => by rw [List.mem_singleton] at hc; subst hc; decide)
    · rw [List.mem_singleton] at hx; subst hx; exact aw_ok
  have oka : ∀ x ∈ [ndA], NdOk x := fun x hx => by rw [List.mem_singleton] at hx; subst hx; exact aw_ok
  have SB : Hid (∀ W ls B g lc, KB F0 w0 W → OwnTs W B (.slice (some ⟨g, 0, none⟩) 2 lc) [ndB [1], ndA] ls →
      Calls Tryd.prog 15 #[.agg #[.slice (some ⟨g, 0, none⟩) 2 lc], .int .i64 1] W fun e w' => ∃ v ls, e = .returned (.tuple #[.agg #[v], .int .i64 0]) ∧ OwnTs w' W.heap.size v [ndA] ls ∧ KB F0 W w') := Lib.hid (fun W ls B g lc hW hown => by
    obtain ⟨a1, c1, e, hn, h1, h2, -⟩ := hown.nodes
    simp only [Value.slice.injEq] at e
    obtain ⟨rfl, -, rfl⟩ := e
    have h := sub_any [ndB [1], ndA] (by decide) okb (some ⟨g, 0, none⟩) lc h1 1 (by decide) (by decide) W hn (hT0.out.kb hW)
    rw [aw_d.1, aw_d.2] at h
    exact h)
  have DB : Hid (∀ W ls B g lc, KB F0 w0 W → OwnTs W B (.slice (some ⟨g, 0, none⟩) 2 lc) [ndB [1], ndA] ls →
      Calls Tryd.prog 25 #[.agg #[.slice (some ⟨g, 0, none⟩) 2 lc]] W fun e w' => e = .returned (.int .i64 2) ∧ KB F0 W w') := Lib.hid (fun W ls B g lc hW hown => by
    obtain ⟨a1, c1, e, hn, h1, h2, -⟩ := hown.nodes
    simp only [Value.slice.injEq] at e
    obtain ⟨rfl, -, rfl⟩ := e
    have h := tdeepR_any [ndB [1], ndA] (by decide) okb (some ⟨g, 0, none⟩) lc W hn (hT0.out.kb hW)
    rw [aw_deep] at h
    exact h)
  have WB : Hid (∀ W ls B g lc, KB F0 w0 W → OwnTs W B (.slice (some ⟨g, 0, none⟩) 2 lc) [ndB [1], ndA] ls →
      Calls Tryd.prog 27 #[.agg #[.slice (some ⟨g, 0, none⟩) 2 lc]] W fun e w' => ∃ b, e = .returned (.func (.func 50) #[] #[.pointer (some ⟨b, 0, none⟩)]) ∧ KB F0 W w') := Lib.hid (fun W ls B g lc hW hown => by
    obtain ⟨a1, c1, e, hn, h1, h2, -⟩ := hown.nodes
    simp only [Value.slice.injEq] at e
    obtain ⟨rfl, -, rfl⟩ := e
    refine (twalk_any [ndB [1], ndA] (by decide) okb (some ⟨g, 0, none⟩) lc W hn (hT0.out.kb hW)).mono ?_
    rintro e w' ⟨b, v, h1, -, -, h2⟩
    exact ⟨b, h1, h2⟩)
  have SA : Hid (∀ W ls ls' B B' g lc g' lc', KB F0 w0 W → OwnTs W B (.slice (some ⟨g, 0, none⟩) 1 lc) [ndA] ls → OwnTs W B' (.slice (some ⟨g', 0, none⟩) 1 lc') [ndA] ls' →
      Calls Tryd.prog 17 #[.agg #[.slice (some ⟨g, 0, none⟩) 1 lc], .agg #[.slice (some ⟨g', 0, none⟩) 1 lc']] W fun e w' => e = .returned (.bool true) ∧ KB F0 W w') := Lib.hid (fun W ls ls' B B' g lc g' lc' hW hown hown' => by
    obtain ⟨a1, c1, e, hn, h1, h2, -⟩ := hown.nodes
    simp only [Value.slice.injEq] at e
    obtain ⟨rfl, -, rfl⟩ := e
    obtain ⟨a1, c1, e, hn', h1, h2, -⟩ := hown'.nodes
    simp only [Value.slice.injEq] at e
    obtain ⟨rfl, -, rfl⟩ := e
    have h := same_any [ndA] [ndA] (by decide) (by decide) oka oka (some ⟨g, 0, none⟩) (some ⟨g', 0, none⟩) lc lc' W hn hn' (hT0.out.kb hW)
    rw [aw_same] at h
    exact h)
  have NA : Hid (∀ W, KB F0 w0 W → Calls Tryd.prog 19 #[.string { data := #[120, 49] }] W fun e w' => e = .returned (.bool true) ∧ KB F0 W w') := Lib.hid (fun W hW => by
    have h := name_any { data := #[120, 49] } W (by decide) (hT0.out.kb hW)
    rw [show nameB { data := #[120, 49] } = true by decide +kernel] at h
    exact h)
  have NB : Hid (∀ W, KB F0 w0 W → Calls Tryd.prog 19 #[.string { data := #[108, 101, 116] }] W fun e w' => e = .returned (.bool false) ∧ KB F0 W w') := Lib.hid (fun W hW => by
    have h := name_any { data := #[108, 101, 116] } W (by decide) (hT0.out.kb hW)
    rw [show nameB { data := #[108, 101, 116] } = false by decide +kernel] at h
    exact h)
  clear okb oka
  go_wp2_with fail
  refine (JA.out w0 (KB.refl _ _)).mono ?_
  rintro e W1 ⟨v1, ls1, rfl, ho1, k1⟩
  obtain ⟨g1, c1, e, hb1⟩ := ho1.shape (by decide)
  change v1 = .slice (some ⟨g1, 0, none⟩) 1 c1 at e
  subst e
  have H1 := Lib.hid (And.intro ho1 k1)
  clear ho1 k1
  go_wp2_with fail
  -- the second Join
  obtain ⟨W2, hW2⟩ : ∃ W2, W2 = (((W1.alloc (.cells #[.slice (some ⟨g1, 0, none⟩) 1 c1] 31)).alloc (.cells #[.int .i64 7] 3)).alloc (.cells #[.slice (some ⟨g1, 0, none⟩) 1 c1] 31)) := ⟨_, rfl⟩
  rw [← hW2]
  have k2 : KB F0 W1 W2 := by rw [hW2]; exact (((KB.refl _ _).alloc _).alloc _).alloc _
  have hA : W2.heap[W1.heap.size]? = some (.cells #[.slice (some ⟨g1, 0, none⟩) 1 c1] 31 (0, 0)) := by
    rw [hW2]; exact (((KB.refl F0 _).alloc _).alloc _).heap (fun x => x) (alloc_new _ _)
  have hnb : W2.heap[W1.heap.size + 1 + 1]? = some (.cells #[.slice (some ⟨g1, 0, none⟩) 1 c1] 31 (0, 0)) := by
    have e : ((W1.alloc (.cells #[.slice (some ⟨g1, 0, none⟩) 1 c1] 31)).alloc (.cells #[.int .i64 7] 3)).heap.size = W1.heap.size + 1 + 1 := by simp
    rw [hW2, ← e]; exact alloc_new _ _
  obtain ⟨A, hAe⟩ : ∃ A, A = W1.heap.size := ⟨_, rfl⟩
  rw [← hAe] at hA hnb ⊢
  have K2 := Lib.hid (H1.out.2.trans k2)
  have O2 := Lib.hid (H1.out.1.kbF k2)
  clear hW2 hAe k2
  refine (JB.out W2 (A + 1 + 1) g1 ls1 c1 (A + 1) K2.out O2.out hnb).mono ?_
  rintro e W3 ⟨v2, ls2, rfl, ho2, k3⟩
  obtain ⟨g2, c2, e, hb2⟩ := ho2.shape (by decide)
  change v2 = .slice (some ⟨g2, 0, none⟩) 2 c2 at e
  subst e
  have hA3 := k3.heap (fun x => x) hA
  have K3 := Lib.hid (K2.out.trans k3)
  have O3 := Lib.hid (And.intro (O2.out.kbF k3) (And.intro ho2 hA3))
  clear ho2 k3 hA hnb hA3
  go_wp2_with fail
  -- the third
  have kV : KB F0 W3 (W3.alloc (.cells #[.slice (some ⟨g2, 0, none⟩) 2 c2] 31)) := (KB.refl _ _).alloc _
  have hBh := alloc_new W3 (.cells #[.slice (some ⟨g2, 0, none⟩) 2 c2] 31)
  obtain ⟨W4, hW4⟩ : ∃ W4, W4 = W3.alloc (.cells #[.slice (some ⟨g2, 0, none⟩) 2 c2] 31) := ⟨_, rfl⟩
  rw [← hW4] at kV hBh ⊢
  obtain ⟨Bv, hBv⟩ : ∃ Bv, Bv = W3.heap.size := ⟨_, rfl⟩
  rw [← hBv] at hBh ⊢
  refine (JC.out W4 (K3.out.trans kV)).mono ?_
  rintro e W5 ⟨v3, ls3, rfl, ho3, k5⟩
  obtain ⟨a3, n3, c3, rfl⟩ : ∃ a n c, v3 = .slice a n c := by
    obtain ⟨a, c, e, -⟩ := own_shape ho3.row
    exact ⟨a, _, c, e⟩
  have k35 := kV.trans k5
  have K5 := Lib.hid (K3.out.trans k35)
  have O5 := Lib.hid (And.intro (O3.out.1.kbF k35) (And.intro (O3.out.2.1.kbF k35) (And.intro (k35.heap (fun x => x) O3.out.2.2) (k5.heap (fun x => x) hBh))))
  clear ho3 k5 hW4 hBv hBh kV k35
  have hB5 : (W5.alloc (.cells #[.slice a3 n3 c3] 31)).cell? ⟨Bv, 0, none⟩ = some (.slice (some ⟨g2, 0, none⟩) 2 c2) := blk_cell (((KB.refl F0 W5).alloc _).heap (fun x => x) O5.out.2.2.2) 0
  go_wp2_with fail
  -- Sub
  have kV : KB F0 W5 (W5.alloc (.cells #[.slice a3 n3 c3] 31)) := (KB.refl _ _).alloc _
  obtain ⟨W6, hW6⟩ : ∃ W6, W6 = W5.alloc (.cells #[.slice a3 n3 c3] 31) := ⟨_, rfl⟩
  rw [← hW6] at kV ⊢
  refine (SB.out W6 ls2 _ g2 c2 (K5.out.trans kV) (O5.out.2.1.kbF kV)).mono ?_
  rintro e W7 ⟨v4, ls4, rfl, ho4, k7⟩
  obtain ⟨g4, c4, e, hb4⟩ := ho4.shape (by decide)
  change v4 = .slice (some ⟨g4, 0, none⟩) 1 c4 at e
  subst e
  have k57 := kV.trans k7
  have K7 := Lib.hid (K5.out.trans k57)
  have kW : KB F0 W7 (W7.alloc (.cells #[.slice (some ⟨g4, 0, none⟩) 1 c4] 31)) := (KB.refl _ _).alloc _
  have k58 := k57.trans kW
  have hC8 := alloc_new W7 (.cells #[.slice (some ⟨g4, 0, none⟩) 1 c4] 31)
  obtain ⟨W8, hW8⟩ : ∃ W8, W8 = W7.alloc (.cells #[.slice (some ⟨g4, 0, none⟩) 1 c4] 31) := ⟨_, rfl⟩
  rw [← hW8] at hC8 kW k58
  have O8 := Lib.hid (And.intro (O5.out.1.kbF k58) (And.intro (O5.out.2.1.kbF k58) (And.intro (ho4.kbF kW) (And.intro (k58.heap (fun x => x) O5.out.2.2.1) (And.intro (k58.heap (fun x => x) O5.out.2.2.2) hC8)))))
  have K8 := Lib.hid (K7.out.trans kW)
  obtain ⟨ab, cb, e, hnb, -, -, -⟩ := O8.out.2.1.nodes
  simp only [Value.slice.injEq] at e
  obtain ⟨rfl, -, rfl⟩ := e
  obtain ⟨b9, o9, e9, hnd⟩ := hnb 0 (by decide)
  simp only [Option.some.injEq, Addr.mk.injEq, and_true] at e9
  obtain ⟨rfl, rfl⟩ := e9
  obtain ⟨la, lc, hl4, hints, hlc, hlm⟩ := hnd.l
  obtain ⟨lb, lo, rfl, hcl⟩ := hints 0 (by decide)
  have hl4' : W8.cell? ⟨g2, 4, none⟩ = some (.slice (some ⟨lb, lo, none⟩) 1 lc) := hl4
  have hcl' : W8.cell? ⟨lb, lo, none⟩ = some (.int .i64 1) := hcl
  have hlc' : 1 ≤ lc := hlc
  have qB : W8.cell? ⟨Bv, 0, none⟩ = some (.slice (some ⟨g2, 0, none⟩) 2 c2) := blk_cell O8.out.2.2.2.2.1 0
  have QA : Hid (W8.cell? ⟨A, 0, none⟩ = some (.slice (some ⟨g1, 0, none⟩) 1 c1)) := Lib.hid (blk_cell O8.out.2.2.2.1 0)
  have QC : Hid (W8.cell? ⟨W7.heap.size, 0, none⟩ = some (.slice (some ⟨g4, 0, none⟩) 1 c4)) := Lib.hid (blk_cell hC8 0)
  unfold maxLen at hlm
  have HW8 := Lib.hid hW8
  clear ho4 k7 k57 kV hW6 hB5 kW k58 hC8 hW8 hnb hnd hl4 hints hcl hlc
  rw [HW8.out] at hl4' hcl' qB
  go_wp2_with fail
  rw [← HW8.out]
  obtain ⟨Cv, hCv⟩ : ∃ Cv, Cv = W7.heap.size := ⟨_, rfl⟩
  rw [← hCv] at QC ⊢
  refine (DB.out W8 ls2 _ g2 c2 K8.out O8.out.2.1).mono ?_
  rintro e W9 ⟨rfl, k9⟩
  have QA9 := k9.cell (p := ⟨A, 0, none⟩) (fun x => x) QA.out
  have QC9 := k9.cell (p := ⟨Cv, 0, none⟩) (fun x => x) QC.out
  have K9 := Lib.hid k9
  clear k9 hl4' hcl' qB hCv HW8
  go_wp2_with fail
  refine (SA.out W9 ls1 ls4 _ _ g1 c1 g4 c4 (K8.out.trans K9.out) (O8.out.1.kbF K9.out) (O8.out.2.2.1.kbF K9.out)).mono ?_
  rintro e W10 ⟨rfl, k10⟩
  have K10 := Lib.hid (K9.out.trans k10)
  clear k10 QA9 QC9
  go_wp2_with fail
  refine (NA.out W10 (K8.out.trans K10.out)).mono ?_
  rintro e W11 ⟨rfl, k11⟩
  have K11 := Lib.hid (K10.out.trans k11)
  clear k11
  go_wp2_with fail
  refine (NB.out W11 (K8.out.trans K11.out)).mono ?_
  rintro e W12 ⟨rfl, k12⟩
  have K12 := Lib.hid (K11.out.trans k12)
  have qB : W12.cell? ⟨Bv, 0, none⟩ = some (.slice (some ⟨g2, 0, none⟩) 2 c2) := blk_cell (K12.out.heap (fun x => x) O8.out.2.2.2.2.1) 0
  clear k12
  go_wp2_with fail
  refine (WB.out W12 ls2 _ g2 c2 (K8.out.trans K12.out) (O8.out.2.1.kbF K12.out)).mono ?_
  rintro e W13 ⟨b13, rfl, k13⟩
  have K13 := Lib.hid ((K8.out.trans K12.out).trans k13)
  have hneq : (binOp BinOp.neq 51 (.func (.func 50) #[] #[.pointer (some ⟨b13, 0, none⟩)]) Value.nilFunc).run Tryd.prog W13 = .ok (.bool true) W13 := neq_nil _ _ _ _
  clear k13 qB
  go_wp2
  go_ret
  exact ⟨rfl, K13.out⟩
end Go.Proofs.YtjefoojkgocinaaDoor

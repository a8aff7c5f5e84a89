/- LexTells, walked: the law returns true for all tokens. -/
import Derived.Test.YtcbifoimfhfccaaGreatDoorLexTd
import Derived.Test.YtcbifoimfhfccaaGreatDoorLexZd
namespace Go.Proofs.YtcbifoimfhfccaaGreatDoor
open Go.RowKit

theorem run_append_owned_none2 {P : Program} {w : World} (base : Nat) (t ty e : TypeId) (i : TypeInfo) (size : Nat) (ht : P.underlying t = some (.slice e)) (hi : P.info? e = some i)
    (v : Value) (n : Nat) (xs : List Value) (c : Nat) (hown : w.ownsRow base e size v n xs) : (Builtin.append_ #[t, t] ty #[v, .slice none 0 c]).run P w = .ok v w := by
  rcases hown.2 with ⟨rfl, rfl⟩ | ⟨g, cap, cur, rfl, -, -, hnc, -⟩
  · simp [Builtin.append_, run_underlying ht, sizeOf, typeInfo, hi, Builtin.lenOf, Builtin.firstCells]
  · simp [Builtin.append_, run_underlying ht, sizeOf, typeInfo, hi, Builtin.lenOf, Builtin.firstCells, hnc, storeCells]
theorem tkCells_one (ts : List Tk) : ∀ u ∈ tkCells ts, u.oneCell' = true := fun u hu => by
  unfold tkCells at hu
  obtain ⟨x, -, hx⟩ := List.mem_flatMap.1 hu
  simp only [tkC, List.mem_cons, List.not_mem_nil, or_false] at hx
  rcases hx with rfl | rfl | rfl | rfl <;> rfl
/-- Tokens copied: 'append([]Token(nil), l...)'. -/
theorem wpList_copy_toks {ops : Array Oper} {rest : List Oper} {o : Oper} {a : Act} {Q : Exit → Act → World → Prop} {w : World} (base : Nat) {s x : Operand} {la : Option Addr} {M lc : Nat} (hgd : o.guard = none)
    (ho : o.op = .call { callee := .builtin .append, args := #[s, x], argTypes := #[22, 22] }) (hs : a.eval s = .slice none 0 0) (hx : a.eval x = .slice la M lc) (l : List Tk) (hM : M = l.length) (hl : ToksAt w la l) (hb : M ≤ 20000) (hbase : base ≤ w.heap.size)
    (h : ∀ lv w', OwnTk w' base lv l → KB F0 w w' → wpList Tryz.prog ops Q rest (a.put o.dst lv) w') : wpList Tryz.prog ops Q (o :: rest) a w := by
  obtain ⟨i, hi, hz0, hz1, hz2⟩ := info_parts Tryz.infoTok
  have hnil : w.ownsRow base 27 4 (.slice none 0 0) 0 [] := World.ownsRow_nil _ _ _ _
  by_cases h0 : M = 0
  · subst h0
    have e1 : l = [] := List.eq_nil_of_length_eq_zero hM.symm
    subst e1
    cases la with
    | none =>
      refine wpList_plain hgd fun K hK => ?_
      have hrun := run_append_owned_none2 (P := Tryz.prog) (w := w) base 22 o.type 27 i 4 Tryz.underlying22 hi _ 0 [] lc hnil
      unfold Oper.wp
      simp [execOp, ho, resolve, invoke, builtin, hs, hx, hrun, Result.andThen]
      exact hK _ _ (h _ _ hnil (KB.refl _ _))
    | some p =>
      refine wpList_append_own w hgd s x 22 ho base 27 i _ 4 40 Tryz.underlying22 hi hz0 hz1 hz2 rfl (by decide) _ 0 [] hs hnil p 0 lc [] hx rfl (fun j u hj => by simp at hj) (fun u hu => by cases hu) (by unfold maxLen; omega) (by simp) hbase ?_
      intro v' w' h1 h2 _
      exact h v' w' h1 (KB.of_grown h2 (fun k e => by cases e))
  · obtain ⟨b, off, rfl, -⟩ := hl 0 (by omega)
    refine wpList_append_own w hgd s x 22 ho base 27 i _ 4 40 Tryz.underlying22 hi hz0 hz1 hz2 rfl (by decide) _ 0 [] hs hnil ⟨b, off, none⟩ M lc (tkCells l) hx (by rw [tkCells_len]; omega) (fun j u hj => ?_) (tkCells_one l) (by unfold maxLen; omega) (by omega) hbase ?_
    · have hjl : j < l.length * 4 := by
        have := (List.getElem?_eq_some_iff.1 hj).1
        rwa [tkCells_len] at this
      obtain ⟨b', off', e, hc⟩ := hl (j / 4) (by omega)
      simp only [Option.some.injEq, Addr.mk.injEq, and_true] at e
      obtain ⟨rfl, rfl⟩ := e
      have hg := tkCells_get l (j / 4) (j % 4) (by omega) (by omega)
      rw [show j / 4 * 4 + j % 4 = j by omega, hj] at hg
      rw [show ((⟨b, off, none⟩ : Addr).add j) = ⟨b, off + j, none⟩ by unfold Addr.add; split <;> simp_all]
      have hc4 : j % 4 = 0 ∨ j % 4 = 1 ∨ j % 4 = 2 ∨ j % 4 = 3 := by omega
      rcases hc4 with e | e | e | e
      · rw [e] at hg; have := hc.k; rw [show off + j / 4 * 4 = off + j by omega] at this; rw [this]; exact hg.symm
      · rw [e] at hg; have := hc.at_; rw [show off + j / 4 * 4 + 1 = off + j by omega] at this; rw [this]; exact hg.symm
      · rw [e] at hg; have := hc.n; rw [show off + j / 4 * 4 + 2 = off + j by omega] at this; rw [this]; exact hg.symm
      · rw [e] at hg; have := hc.s; rw [show off + j / 4 * 4 + 3 = off + j by omega] at this; rw [this]; exact hg.symm
    · intro v' w' h1 h2 _
      rw [Nat.zero_add, List.nil_append] at h1
      exact h v' w' (by unfold OwnTk; rw [← hM]; exact h1) (KB.of_grown h2 (fun k e => by cases e))
theorem ToksAt.pre {w : World} {a : Option Addr} {ts us : List Tk} (h : ToksAt w a (ts ++ us)) : ToksAt w a ts := by
  intro k hk
  have := h k (by rw [List.length_append]; omega)
  rw [show (ts ++ us).getD k tk0 = ts.getD k tk0 by simp [List.getD_eq_getElem?_getD, List.getElem?_append_left hk]] at this
  exact this
theorem own_cap {w : World} {B z n m cap : Nat} {e : TypeId} {a : Option Addr} {xs : List Value} (h : w.ownsRow B e z (.slice a m cap) n xs) : cap ≤ maxLen := by
  rcases h.2 with ⟨h0, -⟩ | ⟨g, cap', cur, h1, -, -, -, h2, -⟩
  · simp only [Value.slice.injEq] at h0
    rw [h0.2.2]; decide
  · simp only [Value.slice.injEq] at h1
    rw [h1.2.2]; exact h2
def mkT : Tk := ⟨0, 0, 0, ⟨#[109, 97, 114, 107]⟩⟩

set_option maxRecDepth 100000 in
set_option maxHeartbeats 32000000 in
theorem tells_any (ts : List Tk) (h64 : ∀ k, k < ts.length → -9223372036854775808 ≤ (ts.getD k tk0).n ∧ (ts.getD k tk0).n ≤ 9223372036854775807) (a : Option Addr) (c : Nat) (w : World) (hT : Tab w) (h1 : ToksAt w a ts) :
    Calls Tryz.prog 3 #[.slice a ts.length c] w fun e w' => e = .returned (.bool true) ∧ KB F0 w w' := by
  obtain ⟨w0, rfl⟩ : ∃ w0, w0 = w := ⟨_, rfl⟩
  have AW := Lib.hid (fun (W : World) (hk : KB F0 w0 W) => awake_any W (hT.kb hk))
  have FT := Lib.hid (fits_all ts a c w0 h1)
  by_cases hfit : ts.length ≤ 16384 ∧ ∀ k, k < ts.length → (ts.getD k tk0).s.size ≤ 16384
  case neg =>
    generalize ts.length = N at FT hfit ⊢
    have HF := Lib.hid hfit
    clear hT h1 hfit
    go_enter Tryz.func3, Tryz.ntmps3
    go_wp2_with fail
    refine FT.out.mono ?_
    rintro e w1 ⟨r, rfl, hr, k1⟩
    have K1 := Lib.hid k1
    obtain rfl : r = false := by
      cases r
      · rfl
      · exact absurd (hr rfl) HF.out
    clear k1 hr
    go_wp2_with fail
    refine (AW.out _ K1.out).mono ?_
    rintro e w2 ⟨rfl, k2⟩
    have K2 := Lib.hid (K1.out.trans k2)
    clear k2
    go_wp2_with fail
    go_ret
    exact ⟨rfl, K2.out⟩
  case pos =>
  obtain ⟨hl, hsz⟩ := hfit
  have hn64 : ∀ k, k < ts.length → Num64 (ts.getD k tk0) := fun k hk => ⟨(h64 k hk).1, (h64 k hk).2, by have := hsz k hk; omega⟩
  have TX := Lib.hid (fun (k : Nat) (hk : k < ts.length) (W : World) (h : KB F0 w0 W) => textP_all (ts.getD k tk0) (hn64 k hk) W (hT.kb h))
  have RT := Lib.hid (fun (k : Nat) (hk : k < ts.length) (W : World) (h : KB F0 w0 W) => rtext_any (ts.getD k tk0) (hn64 k hk) W (hT.kb h))
  have MY := Lib.hid (fun (k : Nat) (hk : k < ts.length) (W : World) (h : KB F0 w0 W) => may_any (ts.getD k tk0) (hn64 k hk) W (hT.kb h))
  have RM := Lib.hid (fun (k : Nat) (hk : k < ts.length) (W : World) (h : KB F0 w0 W) => rmay_any (ts.getD k tk0) (hn64 k hk) W (hT.kb h))
  have JN := Lib.hid (fun (a' : Option Addr) (c' : Nat) (W : World) (h : KB F0 w0 W) (ht : ToksAt W a' ts) => join_any ts (by omega) hn64 a' c' W (hT.kb h) ht)
  have TG := Lib.hid (fun (a' : Option Addr) (c' : Nat) (W : World) (h : KB F0 w0 W) (ht : ToksAt W a' ts) => tight_any ts (by omega) hn64 a' c' W (hT.kb h) ht)
  have RJ := Lib.hid (fun (a' : Option Addr) (c' : Nat) (W : World) (h : KB F0 w0 W) (ht : ToksAt W a' ts) => rJoin_any ts hl hn64 a' c' W (hT.kb h) ht)
  have RG := Lib.hid (fun (a' : Option Addr) (c' : Nat) (W : World) (h : KB F0 w0 W) (ht : ToksAt W a' ts) => rTight_any ts hl hn64 a' c' W (hT.kb h) ht)
  have SM := Lib.hid (fun (a b : Option Addr) (c d : Nat) (W : World) (h1 : ToksAt W a ts) (h2 : ToksAt W b ts) => same_true ts (by omega) a b c d W h1 h2)
  generalize joinS allAp ts = O at JN RJ
  generalize joinS tightAp ts = U at TG RG
  obtain ⟨O1, O2⟩ := O
  obtain ⟨U1, U2⟩ := U
  simp only at JN RJ TG RG
  obtain ⟨N, hN⟩ : ∃ N, N = ts.length := ⟨_, rfl⟩
  have H := Lib.hid (And.intro h1 hN)
  rw [← hN] at FT JN TG RJ RG SM hl ⊢
  clear hT h1 hN h64 hn64 hsz
  go_enter Tryz.func3, Tryz.ntmps3
  go_wp2_with fail
  refine FT.out.mono ?_
  rintro e w1 ⟨r, rfl, -, k1⟩
  have K1 := Lib.hid k1
  clear k1 FT
  cases r
  case false =>
    go_wp2_with fail
    refine (AW.out _ K1.out).mono ?_
    rintro e w2 ⟨rfl, k2⟩
    have K2 := Lib.hid (K1.out.trans k2)
    clear k2
    go_wp2_with fail
    go_ret
    exact ⟨rfl, K2.out⟩
  case true =>
  go_wp2_with (at_builtin; refine Stopped.out ?_)
  refine ⟨?_⟩
  refine wpList_copy_toks w0.heap.size rfl rfl rfl rfl ts H.out.2 (H.out.1.kbF K1.out) (by omega) K1.out.size ?_
  intro lv w2 hown k2
  have K2 := Lib.hid (And.intro hown (K1.out.trans k2))
  clear hown k2
  go_wp2_with (at_builtin; refine Stopped.out ?_)
  refine ⟨?_⟩
  have ka : KB F0 w2 (w2.alloc (.cells #[.int .u8 0, .int .i64 0, .int .i64 0, .string ⟨#[109, 97, 114, 107]⟩] 27)) := (KB.refl _ _).alloc _
  have HA := Lib.hid (And.intro (K2.out.1.kbF ka) (And.intro (K2.out.2.trans ka) (alloc_new w2 (.cells #[.int .u8 0, .int .i64 0, .int .i64 0, .string ⟨#[109, 97, 114, 107]⟩] 27))))
  refine appRow 22 27 w0.heap.size (tkC mkT).toList Tryz.infoTok Tryz.underlying22 rfl (by decide) HA.out.1 rfl rfl rfl rfl HA.out.2.2 rfl (by intro u hu; simp [tkC] at hu; rcases hu with rfl | rfl | rfl | rfl <;> rfl) (by rw [← H.out.2]; unfold maxLen; omega) (by rw [← H.out.2]; omega) (by have := HA.out.2.1.size; omega) ?_
  intro v3 w3 hown3 hgr3
  have hpush : OwnTk w3 w0.heap.size v3 (ts ++ [mkT]) := by
    unfold OwnTk
    rw [tkCells_app, List.length_append]
    exact hown3
  have k3 : KB F0 w0 w3 := HA.out.2.1.grown hgr3 (own_ge HA.out.1 (Nat.le_refl _))
  obtain ⟨oa, oc, rfl, hoc, hot⟩ := hpush.toks
  rw [List.length_append, List.length_singleton, ← H.out.2] at hoc ⊢
  have hml : oc ≤ maxLen := own_cap hpush
  unfold maxLen at hml
  have K3 := Lib.hid (And.intro k3 hot)
  clear hown3 hgr3 hpush k3 hot ka HA
  go_wp2_with fail
  go_loopw [4] (fun iv wr => ∃ i : Nat, i ≤ N ∧ iv = .int .i64 (i : Nat) ∧ Hid (KB F0 w3 wr)) (fun iv _ => N - (intOf iv).toNat)
  case atStart => exact ⟨0, by omega, rfl, Lib.hid (KB.refl _ _)⟩
  case round =>
    obtain ⟨i, hi, rfl, hkb⟩ := hrel
    have HK := Lib.hid (K3.out.1.trans hkb.out)
    by_cases hlt : i < N
    · have d1 : decide ((i : Int) < (N : Int)) = true := decide_eq_true (by omega)
      have hiN : (i : Int) < (N : Int) := by omega
      have hLt : i < ts.length := by rw [← H.out.2]; exact hlt
      obtain ⟨blk, off, rfl, hx0⟩ := H.out.1 i hLt
      have TXK := Lib.hid (TX.out i hLt)
      have RTK := Lib.hid (RT.out i hLt)
      have MYK := Lib.hid (MY.out i hLt)
      have RMK := Lib.hid (RM.out i hLt)
      generalize ts.getD i tk0 = x at hx0 TXK RTK MYK RMK
      obtain ⟨A, B, hAB⟩ : ∃ A B, rtOut (mayS x) (textS x) = .tuple #[.string A, .int .i64 B] := ⟨_, _, rfl⟩
      rw [hAB] at TXK RTK
      generalize mayS x = m at MYK RMK hAB
      have HXX := Lib.hid hx0
      have hx := hx0.kbF HK.out
      have c0 := hx.k
      have c1 := hx.at_
      have c2 := hx.n
      have c3 := hx.s
      unfold tkC at TXK RTK MYK RMK
      clear hx hx0 hAB hLt
      go_wp2_with fail
      refine (TXK.out _ HK.out).mono ?_
      rintro e w4 ⟨rfl, k4⟩
      have K4 := Lib.hid (And.intro (HK.out.trans k4) (hkb.out.trans k4))
      have hx := HXX.out.kbF (HK.out.trans k4)
      clear k4 c0 c1 c2 c3
      have c0 := hx.k
      have c1 := hx.at_
      have c2 := hx.n
      have c3 := hx.s
      clear hx
      go_wp2_with fail
      refine (RTK.out _ K4.out.1).mono ?_
      rintro e w5 ⟨rfl, k5⟩
      have K5 := Lib.hid (And.intro (K4.out.1.trans k5) (K4.out.2.trans k5))
      have hx := HXX.out.kbF (K4.out.1.trans k5)
      clear k5 c0 c1 c2 c3
      have c0 := hx.k
      have c1 := hx.at_
      have c2 := hx.n
      have c3 := hx.s
      clear hx
      go_wp2_with fail
      refine wp_region_rv 21 GK (kindW [(13, (fun v => v = .bool m), (fun _ _ => True)), (18, (fun v => v = .bool m), (fun _ _ => True))]) (by kernel_rfl) (by kernel_rfl) (kb_trans _) (kb_refl _) (kb_start _ _) (kindW_mono _ (by intro p hp; simp only [List.mem_cons, List.not_mem_nil, or_false] at hp; rcases hp with rfl | rfl <;> exact lasts_true)) ?_
      simp only [List.take_succ_cons, List.take_zero, List.drop_succ_cons, List.drop_zero]
      iterate 12 (refine rv_det (by kernel_rfl) rfl (by intro w hG hH; go_simp; first | done | with_reducible rfl) ?_; simp only [Act.put, List.setIfInBounds_toArray, List.set_cons_zero, List.set_cons_succ])
      refine rv_det (by kernel_rfl) rfl (by intro w hG hH; have hc0 := KB.cell hG (fun x => x) (c0); have hc1 := KB.cell hG (fun x => x) (c1); have hc2 := KB.cell hG (fun x => x) (c2); have hc3 := KB.cell hG (fun x => x) (c3); go_simp; first | done | with_reducible rfl) ?_
      simp only [Act.put, List.setIfInBounds_toArray, List.set_cons_zero, List.set_cons_succ]
      refine rv_rel (by kernel_rfl) rfl ⟨_, rfl⟩ (by
        intro w hG hH
        refine opVal_call (by go_simp; first | done | exact ⟨⟨rfl, rfl⟩, rfl⟩) ?_
        refine (MYK.out _ (K5.out.1.trans hG)).mono ?_
        rintro e w' ⟨rfl, hq⟩
        exact ⟨_, rfl, rfl, by first | (obtain ⟨nq, rfl⟩ := hq; exact (KB.refl _ _).drewN _) | (subst hq; exact KB.refl _ _) | exact hq, trivial⟩) ?_
      rintro v rfl
      simp only [Act.put, List.setIfInBounds_toArray, List.set_cons_zero, List.set_cons_succ]
      iterate 3 (refine rv_det (by kernel_rfl) rfl (by intro w hG hH; go_simp; first | done | with_reducible rfl) ?_; simp only [Act.put, List.setIfInBounds_toArray, List.set_cons_zero, List.set_cons_succ])
      refine rv_det (by kernel_rfl) rfl (by intro w hG hH; have hc0 := KB.cell hG (fun x => x) (c0); have hc1 := KB.cell hG (fun x => x) (c1); have hc2 := KB.cell hG (fun x => x) (c2); have hc3 := KB.cell hG (fun x => x) (c3); go_simp; first | done | with_reducible rfl) ?_
      simp only [Act.put, List.setIfInBounds_toArray, List.set_cons_zero, List.set_cons_succ]
      refine rv_rel (by kernel_rfl) rfl ⟨_, rfl⟩ (by
        intro w hG hH
        refine opVal_call (by go_simp; first | done | exact ⟨⟨rfl, rfl⟩, rfl⟩) ?_
        refine (RMK.out _ (K5.out.1.trans hG)).mono ?_
        rintro e w' ⟨rfl, hq⟩
        exact ⟨_, rfl, rfl, by first | (obtain ⟨nq, rfl⟩ := hq; exact (KB.refl _ _).drewN _) | (subst hq; exact KB.refl _ _) | exact hq, trivial⟩) ?_
      rintro v rfl
      simp only [Act.put, List.setIfInBounds_toArray, List.set_cons_zero, List.set_cons_succ]
      iterate 2 (refine rv_det (by kernel_rfl) rfl (by intro w hG hH; go_simp; first | done | with_reducible rfl) ?_; simp only [Act.put, List.setIfInBounds_toArray, List.set_cons_zero, List.set_cons_succ])
      refine rv_nil (fun w hG hH => ?_)
      have HG := Lib.hid (K5.out.2.trans hG)
      clear hG hH c0 c1 c2 c3
      go_wp2_with fail
      refine ⟨⟨i + 1, by omega, by go_num, Lib.hid HG.out⟩, by simp [intOf]; omega⟩
    · obtain rfl : N = i := by omega
      have d1 : decide ((N : Int) < (N : Int)) = false := decide_eq_false (by omega)
      have hOT := Lib.hid (K3.out.2.kbF hkb.out)
      have iN1 : N ≤ oc := by omega
      have iN2 : (N : Int) ≤ (oc : Int) := by omega
      have iN3 : N ≤ N + 1 := by omega
      clear hkb
      go_wp2_with fail
      refine (JN.out oa oc _ HK.out (hOT.out.pre)).mono ?_
      rintro e w4 ⟨rfl, k4⟩
      have K4 := Lib.hid (And.intro (HK.out.trans k4) (hOT.out.kbF k4))
      clear k4
      go_wp2_with fail
      refine (RJ.out a c _ K4.out.1 (H.out.1.kbF K4.out.1)).mono ?_
      rintro e w5 ⟨rfl, k5⟩
      have K5 := Lib.hid (And.intro (K4.out.1.trans k5) (K4.out.2.kbF k5))
      clear k5
      go_wp2_with fail
      refine (TG.out oa oc _ K5.out.1 K5.out.2.pre).mono ?_
      rintro e w6 ⟨rfl, k6⟩
      have K6 := Lib.hid (And.intro (K5.out.1.trans k6) (K5.out.2.kbF k6))
      clear k6
      go_wp2_with fail
      refine (RG.out a c _ K6.out.1 (H.out.1.kbF K6.out.1)).mono ?_
      rintro e w7 ⟨rfl, k7⟩
      have K7 := Lib.hid (And.intro (K6.out.1.trans k7) (K6.out.2.kbF k7))
      clear k7
      go_wp2_with fail
      refine (SM.out oa a oc c _ K7.out.2.pre (H.out.1.kbF K7.out.1)).mono ?_
      rintro e w8 ⟨rfl, k8⟩
      have K8 := Lib.hid (And.intro (K7.out.1.trans k8) (K7.out.2.kbF k8))
      obtain ⟨g, go, rfl, hmk⟩ := K8.out.2 N (by rw [List.length_append, List.length_singleton, ← H.out.2]; omega)
      rw [show (ts ++ [mkT]).getD N tk0 = mkT by rw [H.out.2]; simp [List.getD_eq_getElem?_getD]] at hmk
      have m3 : w8.cell? ⟨g, go + N * 4 + 3, none⟩ = some (.string ⟨#[109, 97, 114, 107]⟩) := hmk.s
      clear k8 hmk
      go_wp2_with fail
      refine (AW.out _ K8.out.1).mono ?_
      rintro e w9 ⟨rfl, k9⟩
      have K9 := Lib.hid (K8.out.1.trans k9)
      clear k9
      go_wp2_with fail
      go_ret
      exact ⟨rfl, K9.out⟩
end Go.Proofs.YtcbifoimfhfccaaGreatDoor

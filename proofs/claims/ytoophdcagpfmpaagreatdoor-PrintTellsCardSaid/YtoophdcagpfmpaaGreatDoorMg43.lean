/- loanwordref03.Check, May. loanwordref05: long, Expr, Type. -/
import Derived.Test.YtoophdcagpfmpaaGreatDoorMg25
import Derived.Test.YtoophdcagpfmpaaGreatDoorMg42
import Derived.Test.YtoophdcagpfmpaaGreatDoorMg36
namespace Go.Proofs.YtoophdcagpfmpaaGreatDoor
open Go.RowKit

theorem askR_l (k : Nat) (n : Int) (s : ByteArray) (l : List Nat) : (askR k n s l).2 = (askR k n s []).2 := by
  unfold askR
  split <;> rfl
theorem asks_same {ts : List Nd} {x : Nd} (h1 : x.l.length ≤ ts.length) (_h2 : ts.length ≤ 16384) : asksN ts x = casksN ts x := by
  unfold asksN casksN askB fieldsB chB
  rw [askR_l x.k x.n x.s (x.l.map (kindOf ts))]
  rw [decide_eq_true h1, decide_eq_true (show x.l.length ≤ 16384 by omega)]
  by_cases hk : x.k = 0 ∨ 38 ≤ x.k
  · have e : (askR x.k x.n x.s (x.l.map (kindOf ts))).1 = false := by
      rcases hk with hk | hk
      · rw [hk]; rfl
      · unfold askR; split <;> first | omega | rfl
    rw [e, if_pos hk]
    rcases hk with hk | hk
    · simp [hk]
    · simp [show ¬ x.k ≤ 37 by omega]
  · rw [if_neg hk, decide_eq_true (show 1 ≤ x.k by omega), decide_eq_true (show x.k ≤ 37 by omega)]
    generalize (askR x.k x.n x.s (x.l.map (kindOf ts))).1 = p1
    generalize (askR x.k x.n x.s []).2.1 = p2
    generalize decide ((askR x.k x.n x.s []).2.2.1 ≤ x.n) = p3
    generalize decide (x.n ≤ (askR x.k x.n x.s []).2.2.2) = p4
    generalize decide (0 ≤ x.at_) = p5
    generalize x.l.all (inB ts) = p6
    cases p1 <;> cases p2 <;> cases p3 <;> cases p4 <;> cases p5 <;> cases p6 <;> rfl
/-- Of a tree whose walk comes to its end both ask the same. -/
theorem asks_same_good {ts : List Nd} (hg : Good ts) (h2 : ts.length ≤ 16384) {i : Nat} (hi : i < ts.length) : asksN ts (ts.getD i nd0) = casksN ts (ts.getD i nd0) :=
  asks_same (Nat.le_of_lt (good_len hg hi)) h2

set_option maxRecDepth 100000 in
set_option maxHeartbeats 8000000 in
theorem ccheck_any (ts : List Nd) (hlen : ts.length < 100000000) (hok : ∀ x ∈ ts, NdOk x) (a : Option Addr) (cap : Nat) (w : World) (hts : NodesAt w a ts) (hT : Tab w) :
    Calls Tryz.prog 58 #[.agg #[.slice a ts.length cap]] w fun e w' => (∃ at_ : Int, e = .returned (.tuple #[.int .i64 at_, .int .i64 (chk ts : Nat)])) ∧ KB F0 w w' := by
  obtain ⟨w0, rfl⟩ : ∃ w0, w0 = w := ⟨_, rfl⟩
  by_cases h0 : ts.length = 0
  · have e : chk ts = 30 := by unfold chk; rw [if_pos h0]
    rw [e, h0]
    clear hlen hts hT hok e h0
    go_enter Tryz.func58, Tryz.ntmps58
    go_wp2
    go_ret2
    exact ⟨⟨0, rfl⟩, (KB.refl _ _).alloc _⟩
  · by_cases hlong : 16384 < ts.length
    · rw [chk_long hlong]
      obtain ⟨N, hN⟩ : ∃ N, N = ts.length := ⟨_, rfl⟩
      rw [← hN] at hlong hlen h0 ⊢
      clear hN hts hT hok
      go_enter Tryz.func58, Tryz.ntmps58
      go_wp2
      go_ret2
      exact ⟨⟨16384, rfl⟩, (KB.refl _ _).alloc _⟩
    · have hlen' : ts.length ≤ 20000 := by omega
      have hl16 : ts.length ≤ 16384 := by omega
      have hpos : 0 < ts.length := by omega
      have Ask := Lib.hid (fun (i : Nat) (W : World) (hi : i < ts.length) (h : NodesAt W a ts) (hT : Tab W) => casks_any a ts cap i W hlen' hi h hok hT)
      have Wlk := Lib.hid (fun (W : World) (h : NodesAt W a ts) => cwalk_any ts hlen' hok a cap ts.length 0 1 W hpos (by omega) rfl h)
      have Cbad := Lib.hid (fun hb => chk_bad hpos hl16 (ts := ts) hb)
      have Cgood := Lib.hid (fun hb => chk_good hpos hl16 (ts := ts) hb)
      have Hsame := Lib.hid (fun (hg : Good ts) i (hi : i < ts.length) => asks_same_good hg hl16 hi)
      have Hdee : Hid (∀ (hg : Good ts) (W : World) (h : NodesAt W a ts), Calls Tryz.prog 86 #[.agg #[.slice a ts.length cap], .int .i64 0] W fun e w' => e = .returned (.int .i64 (deepN ts : Nat)) ∧ KB F0 W w') := Lib.hid (fun (hg : Good ts) (W : World) (h : NodesAt W a ts) => cdeep_any ts hlen' (good_down hg) hok a cap ts.length hlen' 0 W hpos (by omega) h)
      have Hbad0 : Hid (∀ i, i < ts.length → asksN ts (ts.getD i nd0) = false → ¬ ts.all (asksN ts) = true) := Lib.hid (fun i hi hb hall => by
        rw [List.all_eq_true.1 hall _ (getD_memN hi)] at hb; cases hb)
      have Hgood0 : Hid ((∀ i, i < ts.length → asksN ts (ts.getD i nd0) = true) → ts.all (asksN ts) = true) := Lib.hid (fun h => by
        rw [List.all_eq_true]
        intro x hx
        obtain ⟨i, hi, rfl⟩ := List.getElem_of_mem hx
        have := h i hi
        rwa [List.getD_eq_getElem?_getD, List.getElem?_eq_getElem hi] at this)
      have HTS := Lib.hid (And.intro hts hT)
      have HWt : Hid (walkF ts ts.length 0 = Wt ts 0) := Lib.hid rfl
      have Hle := Lib.hid (fun k (h : walkF ts ts.length 0 = some k) => walkF_le ts ts.length 0 k hpos h)
      obtain ⟨C, hC⟩ : ∃ C, C = chk ts := ⟨_, rfl⟩
      rw [← hC] at Cbad Cgood ⊢
      obtain ⟨N, hN⟩ : ∃ N, N = ts.length := ⟨_, rfl⟩
      rw [← hN] at hlong hlen h0 hpos hlen' ⊢ Ask Wlk Hsame Hdee Hbad0 Hgood0 Cbad Cgood HWt Hle
      have HN := Lib.hid hN
      have hz : ((N : Int) == 0) = false := by simpa using h0
      have hz2 : decide ((16384 : Int) < (N : Int)) = false := decide_eq_false (by omega)
      clear hN hts hT hok hC
      go_enter Tryz.func58, Tryz.ntmps58
      go_wp2_with fail
      obtain ⟨B1, hB1⟩ : ∃ B1, B1 = (w0.alloc (.cells #[.slice a N cap] 24)) := ⟨_, rfl⟩
      rw [← hB1]
      have k1 : KB F0 w0 B1 := by rw [hB1]; exact (KB.refl _ _).alloc _
      have bt : B1.cell? ⟨w0.heap.size, 0, none⟩ = some (.slice a N cap) := by rw [hB1]; exact new_cell _ _ _ 0
      have H1 := Lib.hid (And.intro HTS.out.1 HTS.out.2)
      have hW := Lib.hid (Wlk.out B1 (HTS.out.1.kbF k1))
      obtain ⟨o, ho⟩ : ∃ o, o = walkF ts N 0 := ⟨_, rfl⟩
      rw [← ho] at hW HWt Hle
      have HW0 := Lib.hid HWt.out.symm
      clear ho hB1 HWt
      refine hW.out.mono ?_
      cases o with
      | none =>
        have hC : Hid (C = 30) := Lib.hid (Cbad.out (fun h => by rw [HW0.out] at h; cases h.2))
        rintro e w1 ⟨⟨L, hLN, rfl⟩, hk1⟩
        have bt0 := hk1.cell (p := ⟨w0.heap.size, 0, none⟩) (fun x => x) bt
        have HK1 := Lib.hid (k1.trans hk1)
        clear hk1 hW bt k1 Hle
        go_wp2_with fail
        go_loopw [7, 4] (fun kv qv wr => ∃ k q : Nat, q ≤ L ∧ kv = .int .i64 k ∧ qv = .int .i64 q ∧ k ≤ q + 1 ∧ KB F0 w1 wr ∧ Hid ((q = L ∧ k ≤ q ∧ ∀ i, i < k → casksN ts (ts.getD i nd0) = true) ∨ (k = q + 1 ∧ q < L ∧ casksN ts (ts.getD q nd0) = false))) (fun kv qv _ => L + 1 - (intOf kv).toNat)
        case atStart => exact ⟨0, L, by omega, rfl, rfl, by omega, KB.refl _ _, Lib.hid (.inl ⟨rfl, by omega, fun i hi => by omega⟩)⟩
        case round =>
          obtain ⟨k, q, hq, rfl, rfl, hkq, hkb, hst⟩ := hrel
          have bt := hkb.cell (p := ⟨w0.heap.size, 0, none⟩) (fun x => x) bt0
          have HK := Lib.hid (HK1.out.trans hkb)
          have HKw := Lib.hid hkb
          clear hkb
          by_cases hlt : k < q
          · have hst2 : q = L ∧ ∀ i, i < k → casksN ts (ts.getD i nd0) = true := by
              rcases hst.out with h | h
              · exact ⟨h.1, h.2.2⟩
              · omega
            have hkL : k < L := by omega
            have hA := Lib.hid (Ask.out k wr (by omega) (H1.out.1.kbF HK.out) (H1.out.2.kb HK.out))
            obtain ⟨c, hc⟩ : ∃ c, c = casksN ts (ts.getD k nd0) := ⟨_, rfl⟩
            rw [← hc] at hA
            have Hc := Lib.hid hc
            have Hst := Lib.hid hst2
            clear hc hst hst2
            cases c
            · have hst3 : Hid ((k = L ∧ k + 1 ≤ k ∧ ∀ i, i < k + 1 → casksN ts (ts.getD i nd0) = true) ∨ (k + 1 = k + 1 ∧ k < L ∧ casksN ts (ts.getD k nd0) = false)) := Lib.hid (.inr ⟨rfl, hkL, Hc.out.symm⟩)
              go_wp2_with fail
              refine hA.out.mono ?_
              rintro e w2 ⟨rfl, hk2⟩
              have HK2 := Lib.hid (HKw.out.trans hk2)
              clear hk2 hA bt
              go_wp2
              go_roundw
              case rel => exact ⟨k + 1, k, by omega, by go_num, rfl, by omega, HK2.out, Lib.hid (.inr ⟨rfl, hkL, Hc.out.symm⟩)⟩
              case measure => simp [intOf]; omega
            · have hst3 : Hid ((q = L ∧ k + 1 ≤ q ∧ ∀ i, i < k + 1 → casksN ts (ts.getD i nd0) = true) ∨ (k + 1 = q + 1 ∧ q < L ∧ casksN ts (ts.getD q nd0) = false)) := Lib.hid (.inl ⟨Hst.out.1, by omega, fun i hi => by
                rcases Nat.lt_or_eq_of_le (Nat.lt_succ_iff.1 hi) with h | rfl
                · exact Hst.out.2 i h
                · exact Hc.out.symm⟩)
              go_wp2_with fail
              refine hA.out.mono ?_
              rintro e w2 ⟨rfl, hk2⟩
              have HK2 := Lib.hid (HKw.out.trans hk2)
              clear hk2 hA bt
              go_wp2
              go_roundw
              case rel => exact ⟨k + 1, q, by omega, by go_num, rfl, by omega, HK2.out, hst3⟩
              case measure => simp [intOf]; omega
          · have hqN : q < N := by omega
            have hqk : q ≤ k := by omega
            clear hst
            go_wp2
            go_ret2
            exact ⟨⟨_, by rw [hC.out]; rfl⟩, HK.out⟩
      | some m =>
        have hm := Hle.out m rfl
        rintro e w1 ⟨rfl, hk1⟩
        have bt0 := hk1.cell (p := ⟨w0.heap.size, 0, none⟩) (fun x => x) bt
        have HK1 := Lib.hid (k1.trans hk1)
        have hmN : m ≤ N := by have := HN.out; omega
        have hm0 : 0 < m := hm.1
        clear hk1 hW bt k1 Hle hm
        by_cases hlt : m < N
        · have hC : Hid (C = 30) := Lib.hid (Cbad.out (fun h => by rw [HW0.out] at h; have := Option.some.inj h.2; omega))
          clear HW0
          go_wp2_with fail
          go_loopw [7, 4] (fun kv qv wr => ∃ k q : Nat, q ≤ m ∧ kv = .int .i64 k ∧ qv = .int .i64 q ∧ k ≤ q + 1 ∧ KB F0 w1 wr ∧ Hid ((q = m ∧ k ≤ q ∧ ∀ i, i < k → casksN ts (ts.getD i nd0) = true) ∨ (k = q + 1 ∧ q < m ∧ casksN ts (ts.getD q nd0) = false))) (fun kv qv _ => m + 1 - (intOf kv).toNat)
          case atStart => exact ⟨0, m, by omega, rfl, rfl, by omega, KB.refl _ _, Lib.hid (.inl ⟨rfl, by omega, fun i hi => by omega⟩)⟩
          case round =>
            obtain ⟨k, q, hq, rfl, rfl, hkq, hkb, hst⟩ := hrel
            have bt := hkb.cell (p := ⟨w0.heap.size, 0, none⟩) (fun x => x) bt0
            have HK := Lib.hid (HK1.out.trans hkb)
            have HKw := Lib.hid hkb
            clear hkb
            by_cases hlt : k < q
            · have hst2 : q = m ∧ ∀ i, i < k → casksN ts (ts.getD i nd0) = true := by
                rcases hst.out with h | h
                · exact ⟨h.1, h.2.2⟩
                · omega
              have hkL : k < m := by omega
              have hA := Lib.hid (Ask.out k wr (by omega) (H1.out.1.kbF HK.out) (H1.out.2.kb HK.out))
              obtain ⟨c, hc⟩ : ∃ c, c = casksN ts (ts.getD k nd0) := ⟨_, rfl⟩
              rw [← hc] at hA
              have Hc := Lib.hid hc
              have Hst := Lib.hid hst2
              clear hc hst hst2
              cases c
              · have hst3 : Hid ((k = m ∧ k + 1 ≤ k ∧ ∀ i, i < k + 1 → casksN ts (ts.getD i nd0) = true) ∨ (k + 1 = k + 1 ∧ k < m ∧ casksN ts (ts.getD k nd0) = false)) := Lib.hid (.inr ⟨rfl, hkL, Hc.out.symm⟩)
                go_wp2_with fail
                refine hA.out.mono ?_
                rintro e w2 ⟨rfl, hk2⟩
                have HK2 := Lib.hid (HKw.out.trans hk2)
                clear hk2 hA bt
                go_wp2
                go_roundw
                case rel => exact ⟨k + 1, k, by omega, by go_num, rfl, by omega, HK2.out, Lib.hid (.inr ⟨rfl, hkL, Hc.out.symm⟩)⟩
                case measure => simp [intOf]; omega
              · have hst3 : Hid ((q = m ∧ k + 1 ≤ q ∧ ∀ i, i < k + 1 → casksN ts (ts.getD i nd0) = true) ∨ (k + 1 = q + 1 ∧ q < m ∧ casksN ts (ts.getD q nd0) = false)) := Lib.hid (.inl ⟨Hst.out.1, by omega, fun i hi => by
                  rcases Nat.lt_or_eq_of_le (Nat.lt_succ_iff.1 hi) with h | rfl
                  · exact Hst.out.2 i h
                  · exact Hc.out.symm⟩)
                go_wp2_with fail
                refine hA.out.mono ?_
                rintro e w2 ⟨rfl, hk2⟩
                have HK2 := Lib.hid (HKw.out.trans hk2)
                clear hk2 hA bt
                go_wp2
                go_roundw
                case rel => exact ⟨k + 1, q, by omega, by go_num, rfl, by omega, HK2.out, hst3⟩
                case measure => simp [intOf]; omega
            · have hqN : q < N := by omega
              have hqk : q ≤ k := by omega
              clear hst
              go_wp2
              go_ret2
              exact ⟨⟨_, by rw [hC.out]; rfl⟩, HK.out⟩
        · obtain rfl : m = N := by omega
          have hg : Good ts := ⟨by rw [← HN.out]; exact hpos, by rw [HW0.out, HN.out]⟩
          have HgN := Lib.hid (show Wt ts 0 = some ts.length from hg.2)
          have Hbad := Lib.hid (fun i hi hb => Hbad0.out i hi (by rw [Hsame.out hg i hi]; exact hb))
          have Hgood := Lib.hid (fun (h : ∀ i, i < m → casksN ts (ts.getD i nd0) = true) => Hgood0.out (fun i hi => by rw [Hsame.out hg i hi]; exact h i hi))
          have Dee := Lib.hid (fun W h => Hdee.out hg W h)
          obtain ⟨N, rfl⟩ : ∃ N, N = m := ⟨_, rfl⟩
          clear HW0 hg Hsame Hbad0 Hgood0 Hdee hlt
          go_wp2_with fail
          go_loopw [7, 4] (fun kv qv wr => ∃ k q : Nat, q ≤ N ∧ kv = .int .i64 k ∧ qv = .int .i64 q ∧ k ≤ q + 1 ∧ KB F0 w1 wr ∧ Hid ((q = N ∧ k ≤ q ∧ ∀ i, i < k → casksN ts (ts.getD i nd0) = true) ∨ (k = q + 1 ∧ q < N ∧ casksN ts (ts.getD q nd0) = false))) (fun kv qv _ => N + 1 - (intOf kv).toNat)
          case atStart => exact ⟨0, N, by omega, rfl, rfl, by omega, KB.refl _ _, Lib.hid (.inl ⟨rfl, by omega, fun i hi => by omega⟩)⟩
          case round =>
            obtain ⟨k, q, hq, rfl, rfl, hkq, hkb, hst⟩ := hrel
            have bt := hkb.cell (p := ⟨w0.heap.size, 0, none⟩) (fun x => x) bt0
            have HK := Lib.hid (HK1.out.trans hkb)
            have HKw := Lib.hid hkb
            clear hkb
            by_cases hlt : k < q
            · have hst2 : q = N ∧ ∀ i, i < k → casksN ts (ts.getD i nd0) = true := by
                rcases hst.out with h | h
                · exact ⟨h.1, h.2.2⟩
                · omega
              have hkL : k < N := by omega
              have hA := Lib.hid (Ask.out k wr (by omega) (H1.out.1.kbF HK.out) (H1.out.2.kb HK.out))
              obtain ⟨c, hc⟩ : ∃ c, c = casksN ts (ts.getD k nd0) := ⟨_, rfl⟩
              rw [← hc] at hA
              have Hc := Lib.hid hc
              have Hst := Lib.hid hst2
              clear hc hst hst2
              cases c
              · have hst3 : Hid ((k = N ∧ k + 1 ≤ k ∧ ∀ i, i < k + 1 → casksN ts (ts.getD i nd0) = true) ∨ (k + 1 = k + 1 ∧ k < N ∧ casksN ts (ts.getD k nd0) = false)) := Lib.hid (.inr ⟨rfl, hkL, Hc.out.symm⟩)
                go_wp2_with fail
                refine hA.out.mono ?_
                rintro e w2 ⟨rfl, hk2⟩
                have HK2 := Lib.hid (HKw.out.trans hk2)
                clear hk2 hA bt
                go_wp2
                go_roundw
                case rel => exact ⟨k + 1, k, by omega, by go_num, rfl, by omega, HK2.out, Lib.hid (.inr ⟨rfl, hkL, Hc.out.symm⟩)⟩
                case measure => simp [intOf]; omega
              · have hst3 : Hid ((q = N ∧ k + 1 ≤ q ∧ ∀ i, i < k + 1 → casksN ts (ts.getD i nd0) = true) ∨ (k + 1 = q + 1 ∧ q < N ∧ casksN ts (ts.getD q nd0) = false)) := Lib.hid (.inl ⟨Hst.out.1, by omega, fun i hi => by
                  rcases Nat.lt_or_eq_of_le (Nat.lt_succ_iff.1 hi) with h | rfl
                  · exact Hst.out.2 i h
                  · exact Hc.out.symm⟩)
                go_wp2_with fail
                refine hA.out.mono ?_
                rintro e w2 ⟨rfl, hk2⟩
                have HK2 := Lib.hid (HKw.out.trans hk2)
                clear hk2 hA bt
                go_wp2
                go_roundw
                case rel => exact ⟨k + 1, q, by omega, by go_num, rfl, by omega, HK2.out, hst3⟩
                case measure => simp [intOf]; omega
            · have hqk : q ≤ k := by omega
              by_cases hqN : q < N
              · have hC : Hid (C = 30) := Lib.hid (Cbad.out (fun h => by
                  rcases hst.out with h' | h'
                  · omega
                  · exact Hbad.out q hqN h'.2.2 h.1))
                clear hst
                go_wp2
                go_ret2
                exact ⟨⟨_, by rw [hC.out]; rfl⟩, HK.out⟩
              · obtain rfl : q = N := by omega
                have hC : Hid (C = if 48 < deepN ts then 4 else 0) := Lib.hid (Cgood.out ⟨Hgood.out (by
                  rcases hst.out with h' | h'
                  · intro i hi; exact h'.2.2 i (by omega)
                  · omega), by rw [HgN.out, HN.out]⟩)
                have hD := Lib.hid (Dee.out wr (H1.out.1.kbF HK.out))
                have hdb : deepN ts ≤ 20000 := by
                  have := deepF_le ts ts.length 0
                  have := HN.out
                  unfold deepN; omega
                generalize deepN ts = d at hD hC hdb
                clear hst
                by_cases h48 : 48 < d
                · have hC2 : Hid (C = 4) := Lib.hid (by rw [hC.out, if_pos h48])
                  go_wp2_with fail
                  refine hD.out.mono ?_
                  rintro e w3 ⟨rfl, hk3⟩
                  have HK3 := Lib.hid (HK.out.trans hk3)
                  clear hk3 hD hC
                  go_wp2
                  go_ret2
                  exact ⟨⟨0, by rw [hC2.out]; rfl⟩, HK3.out⟩
                · have hC2 : Hid (C = 0) := Lib.hid (by rw [hC.out, if_neg h48])
                  have h48' : d ≤ 48 := by omega
                  go_wp2_with fail
                  refine hD.out.mono ?_
                  rintro e w3 ⟨rfl, hk3⟩
                  have HK3 := Lib.hid (HK.out.trans hk3)
                  clear hk3 hD hC
                  go_wp2
                  go_ret2
                  exact ⟨⟨0, by rw [hC2.out]; rfl⟩, HK3.out⟩
theorem cmay_any (ts : List Nd) (hlen : ts.length < 100000000) (hok : ∀ x ∈ ts, NdOk x) (a : Option Addr) (cap : Nat) (w : World) (hts : NodesAt w a ts) (hT : Tab w) :
    Calls Tryz.prog 20 #[.agg #[.slice a ts.length cap]] w fun e w' => e = .returned (.bool (mayN ts)) ∧ KB F0 w w' := by
  obtain ⟨w0, rfl⟩ : ∃ w0, w0 = w := ⟨_, rfl⟩
  have ka := (KB.refl F0 w0).alloc (.cells #[.slice a ts.length cap] 24)
  have Hc := Lib.hid (ccheck_any ts hlen hok a cap _ (hts.kbF ka) (hT.kb ka))
  obtain ⟨m, hm⟩ : ∃ m, m = mayN ts := ⟨_, rfl⟩
  have hm' : m = decide (chk ts = 0) := hm
  rw [← hm]
  have hle := chk_le ts
  generalize chk ts = c at Hc hm' hle
  generalize ts.length = N at *
  have Hm := Lib.hid hm'
  clear hm hm' hts hT hok
  go_enter Tryz.func20, Tryz.ntmps20
  go_wp2_with fail
  refine Hc.out.mono ?_
  rintro e w1 ⟨⟨at_, rfl⟩, hk1⟩
  have HK := Lib.hid (ka.trans hk1)
  clear hk1 Hc ka
  go_wp2
  go_ret
  refine ⟨?_, HK.out⟩
  rw [Hm.out]
  refine ret_eq ?_
  by_cases h : c = 0
  · subst h; rfl
  · have : ((c : Int) == 0) = false := by simpa using h
    simp [h, this]
end Go.Proofs.YtoophdcagpfmpaaGreatDoor

namespace Go.Proofs.YtoophdcagpfmpaaGreatDoor
open Go.RowKit

set_option maxRecDepth 100000 in
theorem rlong_any (s : ByteArray) (w : World) (hs : s.size ≤ 100000000000) : Calls Tryz.prog 46 #[.string s] w fun e w' => e = .returned (.tuple #[.string (longP s).1, .int .i64 ((longP s).2 : Nat)]) ∧ w = w' := by
  obtain ⟨R, hR⟩ : ∃ R, R = longP s := ⟨_, rfl⟩
  rw [← hR]
  unfold longP at hR
  by_cases h : 65536 < s.size
  · have HE : Hid (R = (ByteArray.empty, 3)) := Lib.hid (by rw [hR, if_pos h])
    have t1 : decide (65536 < s.size) = true := decide_eq_true h
    have t2 : decide ((65536 : Int) < (s.size : Int)) = true := decide_eq_true (by omega)
    clear hR h
    go_enter Tryz.func46, Tryz.ntmps46
    go_wp2_with fail
    go_ret2
    exact ⟨ret_eq (by rw [HE.out]; rfl), rfl⟩
  · have HE : Hid (R = (s, 0)) := Lib.hid (by rw [hR, if_neg h])
    have t1 : decide (65536 < s.size) = false := decide_eq_false h
    have t2 : decide ((65536 : Int) < (s.size : Int)) = false := decide_eq_false (by omega)
    clear hR h
    go_enter Tryz.func46, Tryz.ntmps46
    go_wp2_with fail
    go_ret2
    exact ⟨ret_eq (by rw [HE.out]; rfl), rfl⟩
set_option maxRecDepth 100000 in
set_option maxHeartbeats 4000000 in
theorem rexprP_any (ts : List Nd) (hlen : ts.length < 100000000) (hok : ∀ x ∈ ts, NdOk x) (a : Option Addr) (cap : Nat) (w : World) (hts : NodesAt w a ts) (hT : PT w) :
    Calls Tryz.prog 15 #[.agg #[.slice a ts.length cap]] w fun e w' => e = .returned (.tuple #[.string (exprP ts).1, .int .i64 ((exprP ts).2 : Nat)]) ∧ KB F0 w w' := by
  obtain ⟨w0, rfl⟩ : ∃ w0, w0 = w := ⟨_, rfl⟩
  obtain ⟨W1, hW1⟩ : ∃ W1, W1 = w0.alloc (.cells #[.slice a ts.length cap] 24) := ⟨_, rfl⟩
  have k1 : KB F0 w0 W1 := by rw [hW1]; exact tree_box _ _ _ _
  have hb1 : W1.heap[w0.heap.size]? = some (.cells #[.slice a ts.length cap] 24 (0, 0)) := by rw [hW1]; exact alloc_new _ _
  have TM := Lib.hid (fun (W : World) (hk : KB F0 w0 W) => cmay_any ts hlen hok a cap W (hts.kbF hk) (hT.kb hk).asc)
  have TX := Lib.hid (fun (e : mayN ts = true) (e2 : isExprB (ts.getD 0 nd0).k = true) (W : World) (hk : KB F0 w0 W) => rexpr_any ts (tok_of e) hok a cap 0 1 W (tok_of e).good.1 (by omega) (hts.kbF hk) (hT.kb hk) e2)
  have TZ : Hid (mayN ts = true → (Ex ts 0 1).size ≤ 100000000000) := Lib.hid (fun e => by have := Ex_size (tok_of e) hok 1 (tok_of e).good.1; have := wt1_pos (tok_of e).good (tok_of e).good.1; have := (tok_of e).len; omega)
  have TR : mayN ts = true → ∃ b off, a = some ⟨b, off, none⟩ ∧ 0 < ts.length ∧ w0.cell? ⟨b, off, none⟩ = some (.int .u8 ((ts.getD 0 nd0).k : Nat)) := fun e => by
    obtain ⟨b, off, ha, hx⟩ := hts 0 (tok_of e).good.1
    have := hx.k
    rw [Nat.zero_mul, Nat.add_zero] at this
    exact ⟨b, off, ha, (tok_of e).good.1, this⟩
  have TR := Lib.hid TR
  obtain ⟨R, hR⟩ : ∃ R, R = exprP ts := ⟨_, rfl⟩
  rw [← hR]
  unfold exprP at hR
  have HB := Lib.hid (And.intro k1 hb1)
  have HW := Lib.hid hW1
  have HR := Lib.hid hR
  generalize (ts.getD 0 nd0).k = K at TR HR TX
  have IE := Lib.hid (fun (W : World) => cisExpr_any K W)
  generalize isExprB K = ie at IE HR TX
  generalize Ex ts 0 1 = C at TX HR TZ
  generalize mayN ts = mb at TM TX TR HR TZ
  generalize ts.length = N at TM TX TR HB HW ⊢
  unfold TxtCall at TX
  clear hts hT hok hlen k1 hb1 hW1 hR
  cases mb
  case false =>
    have HE : Hid (R = (ByteArray.empty, 2)) := Lib.hid HR.out
    clear HR TX TR TZ
    go_enter Tryz.func15, Tryz.ntmps15
    go_wp2_with fail
    rw [← HW.out]
    refine (TM.out W1 HB.out.1).mono ?_
    rintro e w2 ⟨rfl, k2⟩
    have K2 := Lib.hid (HB.out.1.trans k2)
    clear k2
    go_wp2_with fail
    go_ret2
    exact ⟨ret_eq (by rw [HE.out]; rfl), K2.out⟩
  case true =>
    obtain ⟨b, off, rfl, hN0, hck⟩ := TR.out rfl
    have hz := TZ.out rfl
    have hN0i : (0 : Int) < (N : Int) := by omega
    have HCK := Lib.hid hck
    clear hck TR TZ
    cases ie
    case false =>
      have HE : Hid (R = (ByteArray.empty, 2)) := Lib.hid HR.out
      clear HR TX
      go_enter Tryz.func15, Tryz.ntmps15
      go_wp2_with fail
      rw [← HW.out]
      refine (TM.out W1 HB.out.1).mono ?_
      rintro e w2 ⟨rfl, k2⟩
      have c0 : w2.cell? ⟨w0.heap.size, 0, none⟩ = some (.slice (some ⟨b, off, none⟩) N cap) := blk_cell (k2.heap (fun x => x) HB.out.2) 0
      have ck := (HB.out.1.trans k2).cell (p := ⟨b, off, none⟩) (fun x => x) HCK.out
      have K2 := Lib.hid (HB.out.1.trans k2)
      clear k2
      go_wp2_with fail
      refine (IE.out w2).mono ?_
      rintro e w3 ⟨rfl, rfl⟩
      clear c0 ck
      go_wp2_with fail
      go_ret2
      exact ⟨ret_eq (by rw [HE.out]; rfl), K2.out⟩
    case true =>
      have HE : Hid (R = longP C) := Lib.hid HR.out
      clear HR
      go_enter Tryz.func15, Tryz.ntmps15
      go_wp2_with fail
      rw [← HW.out]
      refine (TM.out W1 HB.out.1).mono ?_
      rintro e w2 ⟨rfl, k2⟩
      have c0 : w2.cell? ⟨w0.heap.size, 0, none⟩ = some (.slice (some ⟨b, off, none⟩) N cap) := blk_cell (k2.heap (fun x => x) HB.out.2) 0
      have ck := (HB.out.1.trans k2).cell (p := ⟨b, off, none⟩) (fun x => x) HCK.out
      have K2 := Lib.hid (HB.out.1.trans k2)
      clear k2
      go_wp2_with fail
      refine (IE.out w2).mono ?_
      rintro e w3 ⟨rfl, rfl⟩
      clear ck
      go_wp2_with fail
      refine (TX.out (by trivial) (by trivial) w2 K2.out).mono ?_
      rintro e w4 ⟨rfl, k4⟩
      have K4 := Lib.hid (K2.out.trans k4)
      have HLG := Lib.hid (rlong_any C w4 hz)
      clear k4 c0 hz
      rw [← HE.out] at HLG
      go_wp2_with fail
      refine HLG.out.mono ?_
      rintro e w5 ⟨rfl, rfl⟩
      go_wp2_with fail
      go_ret2
      exact ⟨rfl, K4.out⟩
set_option maxRecDepth 100000 in
set_option maxHeartbeats 4000000 in
theorem rtypeP_any (ts : List Nd) (hlen : ts.length < 100000000) (hok : ∀ x ∈ ts, NdOk x) (a : Option Addr) (cap : Nat) (w : World) (hts : NodesAt w a ts) (hT : PT w) :
    Calls Tryz.prog 16 #[.agg #[.slice a ts.length cap]] w fun e w' => e = .returned (.tuple #[.string (typeP ts).1, .int .i64 ((typeP ts).2 : Nat)]) ∧ KB F0 w w' := by
  obtain ⟨w0, rfl⟩ : ∃ w0, w0 = w := ⟨_, rfl⟩
  obtain ⟨W1, hW1⟩ : ∃ W1, W1 = w0.alloc (.cells #[.slice a ts.length cap] 24) := ⟨_, rfl⟩
  have k1 : KB F0 w0 W1 := by rw [hW1]; exact tree_box _ _ _ _
  have hb1 : W1.heap[w0.heap.size]? = some (.cells #[.slice a ts.length cap] 24 (0, 0)) := by rw [hW1]; exact alloc_new _ _
  have TM := Lib.hid (fun (W : World) (hk : KB F0 w0 W) => cmay_any ts hlen hok a cap W (hts.kbF hk) (hT.kb hk).asc)
  have TX := Lib.hid (fun (e : mayN ts = true) (e2 : isTypeB (ts.getD 0 nd0).k = true) (W : World) (hk : KB F0 w0 W) => typ_any ts (tok_of e) a cap 0 W (tok_of e).good.1 (hts.kbF hk) e2)
  have TZ : Hid (mayN ts = true → (Ty ts 0).size ≤ 100000000000) := Lib.hid (fun e => by have := Ty_size (tok_of e) (tok_of e).good.1; have := wt1_pos (tok_of e).good (tok_of e).good.1; have := (tok_of e).len; omega)
  have TR : mayN ts = true → ∃ b off, a = some ⟨b, off, none⟩ ∧ 0 < ts.length ∧ w0.cell? ⟨b, off, none⟩ = some (.int .u8 ((ts.getD 0 nd0).k : Nat)) := fun e => by
    obtain ⟨b, off, ha, hx⟩ := hts 0 (tok_of e).good.1
    have := hx.k
    rw [Nat.zero_mul, Nat.add_zero] at this
    exact ⟨b, off, ha, (tok_of e).good.1, this⟩
  have TR := Lib.hid TR
  obtain ⟨R, hR⟩ : ∃ R, R = typeP ts := ⟨_, rfl⟩
  rw [← hR]
  unfold typeP at hR
  have HB := Lib.hid (And.intro k1 hb1)
  have HW := Lib.hid hW1
  have HR := Lib.hid hR
  generalize (ts.getD 0 nd0).k = K at TR HR TX
  have IE := Lib.hid (fun (W : World) => cisType_any K W)
  generalize isTypeB K = ie at IE HR TX
  generalize Ty ts 0 = C at TX HR TZ
  generalize mayN ts = mb at TM TX TR HR TZ
  generalize ts.length = N at TM TX TR HB HW ⊢
  unfold TxtCall at TX
  clear hts hT hok hlen k1 hb1 hW1 hR
  cases mb
  case false =>
    have HE : Hid (R = (ByteArray.empty, 2)) := Lib.hid HR.out
    clear HR TX TR TZ
    go_enter Tryz.func16, Tryz.ntmps16
    go_wp2_with fail
    rw [← HW.out]
    refine (TM.out W1 HB.out.1).mono ?_
    rintro e w2 ⟨rfl, k2⟩
    have K2 := Lib.hid (HB.out.1.trans k2)
    clear k2
    go_wp2_with fail
    go_ret2
    exact ⟨ret_eq (by rw [HE.out]; rfl), K2.out⟩
  case true =>
    obtain ⟨b, off, rfl, hN0, hck⟩ := TR.out rfl
    have hz := TZ.out rfl
    have hN0i : (0 : Int) < (N : Int) := by omega
    have HCK := Lib.hid hck
    clear hck TR TZ
    cases ie
    case false =>
      have HE : Hid (R = (ByteArray.empty, 2)) := Lib.hid HR.out
      clear HR TX
      go_enter Tryz.func16, Tryz.ntmps16
      go_wp2_with fail
      rw [← HW.out]
      refine (TM.out W1 HB.out.1).mono ?_
      rintro e w2 ⟨rfl, k2⟩
      have c0 : w2.cell? ⟨w0.heap.size, 0, none⟩ = some (.slice (some ⟨b, off, none⟩) N cap) := blk_cell (k2.heap (fun x => x) HB.out.2) 0
      have ck := (HB.out.1.trans k2).cell (p := ⟨b, off, none⟩) (fun x => x) HCK.out
      have K2 := Lib.hid (HB.out.1.trans k2)
      clear k2
      go_wp2_with fail
      refine (IE.out w2).mono ?_
      rintro e w3 ⟨rfl, rfl⟩
      clear c0 ck
      go_wp2_with fail
      go_ret2
      exact ⟨ret_eq (by rw [HE.out]; rfl), K2.out⟩
    case true =>
      have HE : Hid (R = longP C) := Lib.hid HR.out
      clear HR
      go_enter Tryz.func16, Tryz.ntmps16
      go_wp2_with fail
      rw [← HW.out]
      refine (TM.out W1 HB.out.1).mono ?_
      rintro e w2 ⟨rfl, k2⟩
      have c0 : w2.cell? ⟨w0.heap.size, 0, none⟩ = some (.slice (some ⟨b, off, none⟩) N cap) := blk_cell (k2.heap (fun x => x) HB.out.2) 0
      have ck := (HB.out.1.trans k2).cell (p := ⟨b, off, none⟩) (fun x => x) HCK.out
      have K2 := Lib.hid (HB.out.1.trans k2)
      clear k2
      go_wp2_with fail
      refine (IE.out w2).mono ?_
      rintro e w3 ⟨rfl, rfl⟩
      clear ck
      go_wp2_with fail
      refine (TX.out (by trivial) (by trivial) w2 K2.out).mono ?_
      rintro e w4 ⟨rfl, k4⟩
      have K4 := Lib.hid (K2.out.trans k4)
      have HLG := Lib.hid (rlong_any C w4 hz)
      clear k4 c0 hz
      rw [← HE.out] at HLG
      go_wp2_with fail
      refine HLG.out.mono ?_
      rintro e w5 ⟨rfl, rfl⟩
      go_wp2_with fail
      go_ret2
      exact ⟨rfl, K4.out⟩
end Go.Proofs.YtoophdcagpfmpaaGreatDoor

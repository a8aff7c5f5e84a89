/- loanwordref03.Check, May. -/
import Derived.Test.YtjefoojkgocinaaDoorTreeX
import Derived.Test.YtjefoojkgocinaaDoorTreeR
namespace Go.Proofs.YtjefoojkgocinaaDoor
open Go.RowKit

theorem askR_l (k : Nat) (n : Int) (s : ByteArray) (l : List Nat) : (askR k n s l).2 = (askR k n s []).2 := by
  unfold askR
  split <;> rfl
theorem asks_same {ts : List Nd} {x : Nd} (h1 : x.l.length ≤ ts.length) (_h2 : ts.length ≤ 16384) : asksN ts x = casksN ts x := by
  unfold asksN casksN askB fieldsB chB
  rw [askR_l x.k x.n x.s (x.l.map (kindOf ts))]
  rw [decide_eq_true h1, decide_eq_true (show x.l.length ≤ 16384 by omega)]
  by_cases hk : x.k = 0 ∨ 38 ≤ x.k
  · have e : (askR x.k x.n x.s (x.l.map (kindOf ts))).1 = false := by
      rcases hk with hk | hk
      · rw [hk]; rfl
      · unfold askR; split <;> first | omega | rfl
    rw [e, if_pos hk]
    rcases hk with hk | hk
    · simp [hk]
    · simp [show ¬ x.k ≤ 37 by omega]
  · rw [if_neg hk, decide_eq_true (show 1 ≤ x.k by omega), decide_eq_true (show x.k ≤ 37 by omega)]
    generalize (askR x.k x.n x.s (x.l.map (kindOf ts))).1 = p1
    generalize (askR x.k x.n x.s []).2.1 = p2
    generalize decide ((askR x.k x.n x.s []).2.2.1 ≤ x.n) = p3
    generalize decide (x.n ≤ (askR x.k x.n x.s []).2.2.2) = p4
    generalize decide (0 ≤ x.at_) = p5
    generalize x.l.all (inB ts) = p6
    cases p1 <;> cases p2 <;> cases p3 <;> cases p4 <;> cases p5 <;> cases p6 <;> rfl
/-- Of a tree whose walk comes to its end both ask the same. -/
theorem asks_same_good {ts : List Nd} (hg : Good ts) (h2 : ts.length ≤ 16384) {i : Nat} (hi : i < ts.length) : asksN ts (ts.getD i nd0) = casksN ts (ts.getD i nd0) :=
  asks_same (Nat.le_of_lt (good_len hg hi)) h2

set_option maxRecDepth 100000 in
set_option maxHeartbeats 8000000 in
theorem ccheck_any (ts : List Nd) (hlen : ts.length < 100000000) (hok : ∀ x ∈ ts, NdOk x) (a : Option Addr) (cap : Nat) (w : World) (hts : NodesAt w a ts) (hT : Tab w) :
    Calls Tryd.prog 31 #[.agg #[.slice a ts.length cap]] w fun e w' => (∃ at_ : Int, e = .returned (.tuple #[.int .i64 at_, .int .i64 (chk ts : Nat)])) ∧ KB F0 w w' := by
  obtain ⟨w0, rfl⟩ : ∃ w0, w0 = w := ⟨_, rfl⟩
  by_cases h0 : ts.length = 0
  · have e : chk ts = 30 := by unfold chk; rw [if_pos h0]
    rw [e, h0]
    clear hlen hts hT hok e h0
    go_enter Tryd.func31, Tryd.ntmps31
    go_wp2
    go_ret2
    exact ⟨⟨0, rfl⟩, (KB.refl _ _).alloc _⟩
  · by_cases hlong : 16384 < ts.length
    · rw [chk_long hlong]
      obtain ⟨N, hN⟩ : ∃ N, N = ts.length := ⟨_, rfl⟩
      rw [← hN] at hlong hlen h0 ⊢
      clear hN hts hT hok
      go_enter Tryd.func31, Tryd.ntmps31
      go_wp2
      go_ret2
      exact ⟨⟨16384, rfl⟩, (KB.refl _ _).alloc _⟩
    · have hlen' : ts.length ≤ 20000 := by omega
      have hl16 : ts.length ≤ 16384 := by omega
      have hpos : 0 < ts.length := by omega
      have Ask := Lib.hid (fun (i : Nat) (W : World) (hi : i < ts.length) (h : NodesAt W a ts) (hT : Tab W) => casks_any a ts cap i W hlen' hi h hok hT)
      have Wlk := Lib.hid (fun (W : World) (h : NodesAt W a ts) => cwalk_any ts hlen' hok a cap ts.length 0 1 W hpos (by omega) rfl h)
      have Cbad := Lib.hid (fun hb => chk_bad hpos hl16 (ts := ts) hb)
      have Cgood := Lib.hid (fun hb => chk_good hpos hl16 (ts := ts) hb)
      have Hsame := Lib.hid (fun (hg : Good ts) i (hi : i < ts.length) => asks_same_good hg hl16 hi)
      have Hdee : Hid (∀ (hg : Good ts) (W : World) (h : NodesAt W a ts), Calls Tryd.prog 56 #[.agg #[.slice a ts.length cap], .int .i64 0] W fun e w' => e = .returned (.int .i64 (deepN ts : Nat)) ∧ KB F0 W w') := Lib.hid (fun (hg : Good ts) (W : World) (h : NodesAt W a ts) => cdeep_any ts hlen' (good_down hg) hok a cap ts.length hlen' 0 W hpos (by omega) h)
      have Hbad0 : Hid (∀ i, i < ts.length → asksN ts (ts.getD i nd0) = false → ¬ ts.all (asksN ts) = true) := Lib.hid (fun i hi hb hall => by
        rw [List.all_eq_true.1 hall _ (getD_memN hi)] at hb; cases hb)
      have Hgood0 : Hid ((∀ i, i < ts.length → asksN ts (ts.getD i nd0) = true) → ts.all (asksN ts) = true) := Lib.hid (fun h => by
        rw [List.all_eq_true]
        intro x hx
        obtain ⟨i, hi, rfl⟩ := List.getElem_of_mem hx
        have := h i hi
        rwa [List.getD_eq_getElem?_getD, List.getElem?_eq_getElem hi] at this)
      have HTS := Lib.hid (And.intro hts hT)
      have HWt : Hid (walkF ts ts.length 0 = Wt ts 0) := Lib.hid rfl
      have Hle := Lib.hid (fun k (h : walkF ts ts.length 0 = some k) => walkF_le ts ts.length 0 k hpos h)
      obtain ⟨C, hC⟩ : ∃ C, C = chk ts := ⟨_, rfl⟩
      rw [← hC] at Cbad Cgood ⊢
      obtain ⟨N, hN⟩ : ∃ N, N = ts.length := ⟨_, rfl⟩
      rw [← hN] at hlong hlen h0 hpos hlen' ⊢ Ask Wlk Hsame Hdee Hbad0 Hgood0 Cbad Cgood HWt Hle
      have HN := Lib.hid hN
      have hz : ((N : Int) == 0) = false := by simpa using h0
      have hz2 : decide ((16384 : Int) < (N : Int)) = false := decide_eq_false (by omega)
      clear hN hts hT hok hC
      go_enter Tryd.func31, Tryd.ntmps31
      go_wp2_with fail
      obtain ⟨B1, hB1⟩ : ∃ B1, B1 = (w0.alloc (.cells #[.slice a N cap] 31)) := ⟨_, rfl⟩
      rw [← hB1]
      have k1 : KB F0 w0 B1 := by rw [hB1]; exact (KB.refl _ _).alloc _
      have bt : B1.cell? ⟨w0.heap.size, 0, none⟩ = some (.slice a N cap) := by rw [hB1]; exact new_cell _ _ _ 0
      have H1 := Lib.hid (And.intro HTS.out.1 HTS.out.2)
      have hW := Lib.hid (Wlk.out B1 (HTS.out.1.kbF k1))
      obtain ⟨o, ho⟩ : ∃ o, o = walkF ts N 0 := ⟨_, rfl⟩
      rw [← ho] at hW HWt Hle
      have HW0 := Lib.hid HWt.out.symm
      clear ho hB1 HWt
      refine hW.out.mono ?_
      cases o with
      | none =>
        have hC : Hid (C = 30) := Lib.hid (Cbad.out (fun h => by rw [HW0.out] at h; cases h.2))
        rintro e w1 ⟨⟨L, hLN, rfl⟩, hk1⟩
        have bt0 := hk1.cell (p := ⟨w0.heap.size, 0, none⟩) (fun x => x) bt
        have HK1 := Lib.hid (k1.trans hk1)
        clear hk1 hW bt k1 Hle
        go_wp2_with fail
        go_loopw [7, 4] (fun kv qv wr => ∃ k q : Nat, q ≤ L ∧ kv = .int .i64 k ∧ qv = .int .i64 q ∧ k ≤ q + 1 ∧ KB F0 w1 wr ∧ Hid ((q = L ∧ k ≤ q ∧ ∀ i, i < k → casksN ts (ts.getD i nd0) = true) ∨ (k = q + 1 ∧ q < L ∧ casksN ts (ts.getD q nd0) = false))) (fun kv qv _ => L + 1 - (intOf kv).toNat)
        case atStart => exact ⟨0, L, by omega, rfl, rfl, by omega, KB.refl _ _, Lib.hid (.inl ⟨rfl, by omega, fun i hi => by omega⟩)⟩
        case round =>
          obtain ⟨k, q, hq, rfl, rfl, hkq, hkb, hst⟩ := hrel
          have bt := hkb.cell (p := ⟨w0.heap.size, 0, none⟩) (fun x => x) bt0
          have HK := Lib.hid (HK1.out.trans hkb)
          have HKw := Lib.hid hkb
          clear hkb
          by_cases hlt : k < q
          · have hst2 : q = L ∧ ∀ i, i < k → casksN ts (ts.getD i nd0) = true := by
              rcases hst.out with h | h
              · exact ⟨h.1, h.2.2⟩
              · omega
            have hkL : k < L := by omega
            have hA := Lib.hid (Ask.out k wr (by omega) (H1.out.1.kbF HK.out) (H1.out.2.kb HK.out))
            obtain ⟨c, hc⟩ : ∃ c, c = casksN ts (ts.getD k nd0) := ⟨_, rfl⟩
            rw [← hc] at hA
            have Hc := Lib.hid hc
            have Hst := Lib.hid hst2
            clear hc hst hst2
            cases c
            · have hst3 : Hid ((k = L ∧ k + 1 ≤ k ∧ ∀ i, i < k + 1 → casksN ts (ts.getD i nd0) = true) ∨ (k + 1 = k + 1 ∧ k < L ∧ casksN ts (ts.getD k nd0) = false)) := Lib.hid (.inr ⟨rfl, hkL, Hc.out.symm⟩)
              go_wp2_with fail
              refine hA.out.mono ?_
              rintro e w2 ⟨rfl, hk2⟩
              have HK2 := Lib.hid (HKw.out.trans hk2)
              clear hk2 hA bt
              go_wp2
              go_roundw
              case rel => exact ⟨k + 1, k, by omega, by go_num, rfl, by omega, HK2.out, Lib.hid (.inr ⟨rfl, hkL, Hc.out.symm⟩)⟩
              case measure => simp [intOf]; omega
            · have hst3 : Hid ((q = L ∧ k + 1 ≤ q ∧ ∀ i, i < k + 1 → casksN ts (ts.getD i nd0) = true) ∨ (k + 1 = q + 1 ∧ q < L ∧ casksN ts (ts.getD q nd0) = false)) := Lib.hid (.inl ⟨Hst.out.1, by omega, fun i hi => by
                rcases Nat.lt_or_eq_of_le (Nat.lt_succ_iff.1 hi) with h | rfl
                · exact Hst.out.2 i h
                · exact Hc.out.symm⟩)
              go_wp2_with fail
              refine hA.out.mono ?_
              rintro e w2 ⟨rfl, hk2⟩
              have HK2 := Lib.hid (HKw.out.trans hk2)
              clear hk2 hA bt
              go_wp2
              go_roundw
              case rel => exact ⟨k + 1, q, by omega, by go_num, rfl, by omega, HK2.out, hst3⟩
              case measure => simp [intOf]; omega
          · have hqN : q < N := by omega
            have hqk : q ≤ k := by omega
            clear hst
            go_wp2
            go_ret2
            exact ⟨⟨_, by rw [hC.out]; rfl⟩, HK.out⟩
      | some m =>
        have hm := Hle.out m rfl
        rintro e w1 ⟨rfl, hk1⟩
        have bt0 := hk1.cell (p := ⟨w0.heap.size, 0, none⟩) (fun x => x) bt
        have HK1 := Lib.hid (k1.trans hk1)
        have hmN : m ≤ N := by have := HN.out; omega
        have hm0 : 0 < m := hm.1
        clear hk1 hW bt k1 Hle hm
        by_cases hlt : m < N
        · have hC : Hid (C = 30) := Lib.hid (Cbad.out (fun h => by rw [HW0.out] at h; have := Option.some.inj h.2; omega))
          clear HW0
          go_wp2_with fail
          go_loopw [7, 4] (fun kv qv wr => ∃ k q : Nat, q ≤ m ∧ kv = .int .i64 k ∧ qv = .int .i64 q ∧ k ≤ q + 1 ∧ KB F0 w1 wr ∧ Hid ((q = m ∧ k ≤ q ∧ ∀ i, i < k → casksN ts (ts.getD i nd0) = true) ∨ (k = q + 1 ∧ q < m ∧ casksN ts (ts.getD q nd0) = false))) (fun kv qv _ => m + 1 - (intOf kv).toNat)
          case atStart => exact ⟨0, m, by omega, rfl, rfl, by omega, KB.refl _ _, Lib.hid (.inl ⟨rfl, by omega, fun i hi => by omega⟩)⟩
          case round =>
            obtain ⟨k, q, hq, rfl, rfl, hkq, hkb, hst⟩ := hrel
            have bt := hkb.cell (p := ⟨w0.heap.size, 0, none⟩) (fun x => x) bt0
            have HK := Lib.hid (HK1.out.trans hkb)
            have HKw := Lib.hid hkb
            clear hkb
            by_cases hlt : k < q
            · have hst2 : q = m ∧ ∀ i, i < k → casksN ts (ts.getD i nd0) = true := by
                rcases hst.out with h | h
                · exact ⟨h.1, h.2.2⟩
                · omega
              have hkL : k < m := by omega
              have hA := Lib.hid (Ask.out k wr (by omega) (H1.out.1.kbF HK.out) (H1.out.2.kb HK.out))
              obtain ⟨c, hc⟩ : ∃ c, c = casksN ts (ts.getD k nd0) := ⟨_, rfl⟩
              rw [← hc] at hA
              have Hc := Lib.hid hc
              have Hst := Lib.hid hst2
              clear hc hst hst2
              cases c
              · have hst3 : Hid ((k = m ∧ k + 1 ≤ k ∧ ∀ i, i < k + 1 → casksN ts (ts.getD i nd0) = true) ∨ (k + 1 = k + 1 ∧ k < m ∧ casksN ts (ts.getD k nd0) = false)) := Lib.hid (.inr ⟨rfl, hkL, Hc.out.symm⟩)
                go_wp2_with fail
                refine hA.out.mono ?_
                rintro e w2 ⟨rfl, hk2⟩
                have HK2 := Lib.hid (HKw.out.trans hk2)
                clear hk2 hA bt
                go_wp2
                go_roundw
                case rel => exact ⟨k + 1, k, by omega, by go_num, rfl, by omega, HK2.out, Lib.hid (.inr ⟨rfl, hkL, Hc.out.symm⟩)⟩
                case measure => simp [intOf]; omega
              · have hst3 : Hid ((q = m ∧ k + 1 ≤ q ∧ ∀ i, i < k + 1 → casksN ts (ts.getD i nd0) = true) ∨ (k + 1 = q + 1 ∧ q < m ∧ casksN ts (ts.getD q nd0) = false)) := Lib.hid (.inl ⟨Hst.out.1, by omega, fun i hi => by
                  rcases Nat.lt_or_eq_of_le (Nat.lt_succ_iff.1 hi) with h | rfl
                  · exact Hst.out.2 i h
                  · exact Hc.out.symm⟩)
                go_wp2_with fail
                refine hA.out.mono ?_
                rintro e w2 ⟨rfl, hk2⟩
                have HK2 := Lib.hid (HKw.out.trans hk2)
                clear hk2 hA bt
                go_wp2
                go_roundw
                case rel => exact ⟨k + 1, q, by omega, by go_num, rfl, by omega, HK2.out, hst3⟩
                case measure => simp [intOf]; omega
            · have hqN : q < N := by omega
              have hqk : q ≤ k := by omega
              clear hst
              go_wp2
              go_ret2
              exact ⟨⟨_, by rw [hC.out]; rfl⟩, HK.out⟩
        · obtain rfl : m = N := by omega
          have hg : Good ts := ⟨by rw [← HN.out]; exact hpos, by rw [HW0.out, HN.out]⟩
          have HgN := Lib.hid (show Wt ts 0 = some ts.length from hg.2)
          have Hbad := Lib.hid (fun i hi hb => Hbad0.out i hi (by rw [Hsame.out hg i hi]; exact hb))
          have Hgood := Lib.hid (fun (h : ∀ i, i < m → casksN ts (ts.getD i nd0) = true) => Hgood0.out (fun i hi => by rw [Hsame.out hg i hi]; exact h i hi))
          have Dee := Lib.hid (fun W h => Hdee.out hg W h)
          obtain ⟨N, rfl⟩ : ∃ N, N = m := ⟨_, rfl⟩
          clear HW0 hg Hsame Hbad0 Hgood0 Hdee hlt
          go_wp2_with fail
          go_loopw [7, 4] (fun kv qv wr => ∃ k q : Nat, q ≤ N ∧ kv = .int .i64 k ∧ qv = .int .i64 q ∧ k ≤ q + 1 ∧ KB F0 w1 wr ∧ Hid ((q = N ∧ k ≤ q ∧ ∀ i, i < k → casksN ts (ts.getD i nd0) = true) ∨ (k = q + 1 ∧ q < N ∧ casksN ts (ts.getD q nd0) = false))) (fun kv qv _ => N + 1 - (intOf kv).toNat)
          case atStart => exact ⟨0, N, by omega, rfl, rfl, by omega, KB.refl _ _, Lib.hid (.inl ⟨rfl, by omega, fun i hi => by omega⟩)⟩
          case round =>
            obtain ⟨k, q, hq, rfl, rfl, hkq, hkb, hst⟩ := hrel
            have bt := hkb.cell (p := ⟨w0.heap.size, 0, none⟩) (fun x => x) bt0
            have HK := Lib.hid (HK1.out.trans hkb)
            have HKw := Lib.hid hkb
            clear hkb
            by_cases hlt : k < q
            · have hst2 : q = N ∧ ∀ i, i < k → casksN ts (ts.getD i nd0) = true := by
                rcases hst.out with h | h
                · exact ⟨h.1, h.2.2⟩
                · omega
              have hkL : k < N := by omega
              have hA := Lib.hid (Ask.out k wr (by omega) (H1.out.1.kbF HK.out) (H1.out.2.kb HK.out))
              obtain ⟨c, hc⟩ : ∃ c, c = casksN ts (ts.getD k nd0) := ⟨_, rfl⟩
              rw [← hc] at hA
              have Hc := Lib.hid hc
              have Hst := Lib.hid hst2
              clear hc hst hst2
              cases c
              · have hst3 : Hid ((k = N ∧ k + 1 ≤ k ∧ ∀ i, i < k + 1 → casksN ts (ts.getD i nd0) = true) ∨ (k + 1 = k + 1 ∧ k < N ∧ casksN ts (ts.getD k nd0) = false)) := Lib.hid (.inr ⟨rfl, hkL, Hc.out.symm⟩)
                go_wp2_with fail
                refine hA.out.mono ?_
                rintro e w2 ⟨rfl, hk2⟩
                have HK2 := Lib.hid (HKw.out.trans hk2)
                clear hk2 hA bt
                go_wp2
                go_roundw
                case rel => exact ⟨k + 1, k, by omega, by go_num, rfl, by omega, HK2.out, Lib.hid (.inr ⟨rfl, hkL, Hc.out.symm⟩)⟩
                case measure => simp [intOf]; omega
              · have hst3 : Hid ((q = N ∧ k + 1 ≤ q ∧ ∀ i, i < k + 1 → casksN ts (ts.getD i nd0) = true) ∨ (k + 1 = q + 1 ∧ q < N ∧ casksN ts (ts.getD q nd0) = false)) := Lib.hid (.inl ⟨Hst.out.1, by omega, fun i hi => by
                  rcases Nat.lt_or_eq_of_le (Nat.lt_succ_iff.1 hi) with h | rfl
                  · exact Hst.out.2 i h
                  · exact Hc.out.symm⟩)
                go_wp2_with fail
                refine hA.out.mono ?_
                rintro e w2 ⟨rfl, hk2⟩
                have HK2 := Lib.hid (HKw.out.trans hk2)
                clear hk2 hA bt
                go_wp2
                go_roundw
                case rel => exact ⟨k + 1, q, by omega, by go_num, rfl, by omega, HK2.out, hst3⟩
                case measure => simp [intOf]; omega
            · have hqk : q ≤ k := by omega
              by_cases hqN : q < N
              · have hC : Hid (C = 30) := Lib.hid (Cbad.out (fun h => by
                  rcases hst.out with h' | h'
                  · omega
                  · exact Hbad.out q hqN h'.2.2 h.1))
                clear hst
                go_wp2
                go_ret2
                exact ⟨⟨_, by rw [hC.out]; rfl⟩, HK.out⟩
              · obtain rfl : q = N := by omega
                have hC : Hid (C = if 48 < deepN ts then 4 else 0) := Lib.hid (Cgood.out ⟨Hgood.out (by
                  rcases hst.out with h' | h'
                  · intro i hi; exact h'.2.2 i (by omega)
                  · omega), by rw [HgN.out, HN.out]⟩)
                have hD := Lib.hid (Dee.out wr (H1.out.1.kbF HK.out))
                have hdb : deepN ts ≤ 20000 := by
                  have := deepF_le ts ts.length 0
                  have := HN.out
                  unfold deepN; omega
                generalize deepN ts = d at hD hC hdb
                clear hst
                by_cases h48 : 48 < d
                · have hC2 : Hid (C = 4) := Lib.hid (by rw [hC.out, if_pos h48])
                  go_wp2_with fail
                  refine hD.out.mono ?_
                  rintro e w3 ⟨rfl, hk3⟩
                  have HK3 := Lib.hid (HK.out.trans hk3)
                  clear hk3 hD hC
                  go_wp2
                  go_ret2
                  exact ⟨⟨0, by rw [hC2.out]; rfl⟩, HK3.out⟩
                · have hC2 : Hid (C = 0) := Lib.hid (by rw [hC.out, if_neg h48])
                  have h48' : d ≤ 48 := by omega
                  go_wp2_with fail
                  refine hD.out.mono ?_
                  rintro e w3 ⟨rfl, hk3⟩
                  have HK3 := Lib.hid (HK.out.trans hk3)
                  clear hk3 hD hC
                  go_wp2
                  go_ret2
                  exact ⟨⟨0, by rw [hC2.out]; rfl⟩, HK3.out⟩
theorem cmay_any (ts : List Nd) (hlen : ts.length < 100000000) (hok : ∀ x ∈ ts, NdOk x) (a : Option Addr) (cap : Nat) (w : World) (hts : NodesAt w a ts) (hT : Tab w) :
    Calls Tryd.prog 30 #[.agg #[.slice a ts.length cap]] w fun e w' => e = .returned (.bool (mayN ts)) ∧ KB F0 w w' := by
  obtain ⟨w0, rfl⟩ : ∃ w0, w0 = w := ⟨_, rfl⟩
  have ka := (KB.refl F0 w0).alloc (.cells #[.slice a ts.length cap] 31)
  have Hc := Lib.hid (ccheck_any ts hlen hok a cap _ (hts.kbF ka) (hT.kb ka))
  obtain ⟨m, hm⟩ : ∃ m, m = mayN ts := ⟨_, rfl⟩
  have hm' : m = decide (chk ts = 0) := hm
  rw [← hm]
  have hle := chk_le ts
  generalize chk ts = c at Hc hm' hle
  generalize ts.length = N at *
  have Hm := Lib.hid hm'
  clear hm hm' hts hT hok
  go_enter Tryd.func30, Tryd.ntmps30
  go_wp2_with fail
  refine Hc.out.mono ?_
  rintro e w1 ⟨⟨at_, rfl⟩, hk1⟩
  have HK := Lib.hid (ka.trans hk1)
  clear hk1 Hc ka
  go_wp2
  go_ret
  refine ⟨?_, HK.out⟩
  rw [Hm.out]
  refine ret_eq ?_
  by_cases h : c = 0
  · subst h; rfl
  · have : ((c : Int) == 0) = false := by simpa using h
    simp [h, this]
end Go.Proofs.YtjefoojkgocinaaDoor

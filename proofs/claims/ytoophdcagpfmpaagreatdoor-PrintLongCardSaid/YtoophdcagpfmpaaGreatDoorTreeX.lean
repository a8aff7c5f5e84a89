/- tree.Check, tree.May; loanwordref03.Check, May: one code. -/
import Derived.Test.YtoophdcagpfmpaaGreatDoorTreeW
import Derived.Test.YtoophdcagpfmpaaGreatDoorTreeK
namespace Go.Proofs.YtoophdcagpfmpaaGreatDoor
open Go.RowKit

theorem chk_long {ts : List Nd} (h : 16384 < ts.length) : chk ts = 3 := by unfold chk; rw [if_neg (by omega), if_pos h]
theorem chk_bad {ts : List Nd} (_h0 : 0 < ts.length) (_h : ts.length ≤ 16384) (hb : ¬ (ts.all (asksN ts) = true ∧ Wt ts 0 = some ts.length)) : chk ts = 30 := by
  unfold chk; rw [if_neg (by omega), if_neg (by omega), if_neg hb]
theorem chk_good {ts : List Nd} (_h0 : 0 < ts.length) (_h : ts.length ≤ 16384) (hb : ts.all (asksN ts) = true ∧ Wt ts 0 = some ts.length) : chk ts = if 48 < deepN ts then 4 else 0 := by
  unfold chk; rw [if_neg (by omega), if_neg (by omega), if_pos hb]
theorem chk_le (ts : List Nd) : chk ts ≤ 30 := by unfold chk; split <;> (try split) <;> (try split) <;> (try split) <;> omega

set_option maxRecDepth 100000 in
set_option maxHeartbeats 8000000 in
theorem check_any (ts : List Nd) (hlen : ts.length < 100000000) (hok : ∀ x ∈ ts, NdOk x) (a : Option Addr) (cap : Nat) (w : World) (hts : NodesAt w a ts) (hT : Tab w) :
    Calls Tryz.prog 59 #[.agg #[.slice a ts.length cap]] w fun e w' => (∃ at_ : Int, e = .returned (.tuple #[.int .i64 at_, .int .i64 (chk ts : Nat)])) ∧ KB F0 w w' := by
  obtain ⟨w0, rfl⟩ : ∃ w0, w0 = w := ⟨_, rfl⟩
  by_cases h0 : ts.length = 0
  · have e : chk ts = 30 := by unfold chk; rw [if_pos h0]
    rw [e, h0]
    clear hlen hts hT hok e h0
    go_enter Tryz.func59, Tryz.ntmps59
    go_wp2
    go_ret2
    exact ⟨⟨0, rfl⟩, (KB.refl _ _).alloc _⟩
  · by_cases hlong : 16384 < ts.length
    · rw [chk_long hlong]
      obtain ⟨N, hN⟩ : ∃ N, N = ts.length := ⟨_, rfl⟩
      rw [← hN] at hlong hlen h0 ⊢
      clear hN hts hT hok
      go_enter Tryz.func59, Tryz.ntmps59
      go_wp2
      go_ret2
      exact ⟨⟨16384, rfl⟩, (KB.refl _ _).alloc _⟩
    · have hlen' : ts.length ≤ 20000 := by omega
      have hpos : 0 < ts.length := by omega
      have Ask := Lib.hid (fun (i : Nat) (W : World) (hi : i < ts.length) (h : NodesAt W a ts) (hT : Tab W) => asks_any a ts cap i W hlen' hi h hok hT)
      have Met := Lib.hid (fun (W : World) (h : NodesAt W a ts) => met_any ts hlen' hpos hok a cap W h)
      have Dee := Lib.hid (fun (hg : Good ts) (W : World) (h : NodesAt W a ts) => deep_any ts hlen' hg a cap W h)
      have Cbad := Lib.hid (fun hb => chk_bad hpos (by omega) (ts := ts) hb)
      have Cgood := Lib.hid (fun hb => chk_good hpos (by omega) (ts := ts) hb)
      have Hall : Hid (∀ i, i < ts.length → asksN ts (ts.getD i nd0) = true → True) := Lib.hid (fun _ _ _ => trivial)
      have Hbad : Hid (∀ i, i < ts.length → asksN ts (ts.getD i nd0) = false → ¬ ts.all (asksN ts) = true) := Lib.hid (fun i hi hb hall => by
        rw [List.all_eq_true.1 hall _ (getD_memN hi)] at hb; cases hb)
      have Hgood : Hid ((∀ i, i < ts.length → asksN ts (ts.getD i nd0) = true) → ts.all (asksN ts) = true) := Lib.hid (fun h => by
        rw [List.all_eq_true]
        intro x hx
        obtain ⟨i, hi, rfl⟩ := List.getElem_of_mem hx
        have := h i hi
        rwa [List.getD_eq_getElem?_getD, List.getElem?_eq_getElem hi] at this)
      have HTS := Lib.hid (And.intro hts hT)
      obtain ⟨C, hC⟩ : ∃ C, C = chk ts := ⟨_, rfl⟩
      rw [← hC] at Cbad Cgood ⊢
      obtain ⟨N, hN⟩ : ∃ N, N = ts.length := ⟨_, rfl⟩
      rw [← hN] at hlong hlen h0 hpos hlen' ⊢ Ask Met Dee Hbad Hgood Cbad Cgood
      have HN := Lib.hid hN
      have hz : ((N : Int) == 0) = false := by simpa using h0
      have hz2 : decide ((16384 : Int) < (N : Int)) = false := decide_eq_false (by omega)
      clear hN hts hT hok hC Hall
      go_enter Tryz.func59, Tryz.ntmps59
      go_wp2_with fail
      obtain ⟨B1, hB1⟩ : ∃ B1, B1 = (w0.alloc (.cells #[.slice a N cap] 24)) := ⟨_, rfl⟩
      rw [← hB1]
      have k1 : KB F0 w0 B1 := by rw [hB1]; exact (KB.refl _ _).alloc _
      have bt : B1.cell? ⟨w0.heap.size, 0, none⟩ = some (.slice a N cap) := by rw [hB1]; exact new_cell _ _ _ 0
      have H1 := Lib.hid (And.intro k1 (And.intro bt (And.intro (HTS.out.1.kbF k1) (HTS.out.2.kb k1))))
      clear hB1 k1 bt
      go_loopw [20, 2, 3] (fun kv av ev wr => ∃ k : Nat, k ≤ N ∧ kv = .int .i64 k ∧ av = .int .i64 0 ∧ ev = .int .i64 0 ∧ KB F0 B1 wr ∧ Hid (∀ i, i < k → asksN ts (ts.getD i nd0) = true)) (fun kv _ _ _ => N - (intOf kv).toNat)
      case atStart => exact ⟨0, by omega, rfl, rfl, rfl, KB.refl _ _, Lib.hid (fun i hi => by omega)⟩
      case round =>
        obtain ⟨k, hk, rfl, rfl, rfl, hkb, hall⟩ := hrel
        have bt := hkb.cell (p := ⟨w0.heap.size, 0, none⟩) (fun x => x) H1.out.2.1
        have HK := Lib.hid hkb
        by_cases hlt : k < N
        · have hA := Lib.hid (Ask.out k wr hlt (H1.out.2.2.1.kbF hkb) (H1.out.2.2.2.kb hkb))
          obtain ⟨q, hq⟩ : ∃ q, q = asksN ts (ts.getD k nd0) := ⟨_, rfl⟩
          rw [← hq] at hA
          have Hq := Lib.hid hq
          clear hkb hq
          cases q
          · have hC : Hid (C = 30) := Lib.hid (Cbad.out (fun h => Hbad.out k hlt Hq.out.symm h.1))
            go_wp2_with fail
            refine hA.out.mono ?_
            rintro e w1 ⟨rfl, hk1⟩
            have bt1 := hk1.cell (p := ⟨w0.heap.size, 0, none⟩) (fun x => x) bt
            have HK1 := Lib.hid (HK.out.trans hk1)
            have hM := Lib.hid (Met.out w1 (H1.out.2.2.1.kbF HK1.out))
            clear hk1 hA bt
            go_wp2_with fail
            refine hM.out.mono ?_
            rintro e w2 ⟨⟨n, rfl⟩, hk2⟩
            have HK2 := Lib.hid ((H1.out.1.trans HK1.out).trans hk2)
            have bt2 := hk2.cell (p := ⟨w0.heap.size, 0, none⟩) (fun x => x) bt1
            clear hk2 hM bt1
            generalize decide (Wt ts 0 = some N) = ok
            cases ok
            · by_cases hnk : n < k
              · go_wp2
                go_ret2
                exact ⟨⟨_, by rw [hC.out]; rfl⟩, HK2.out⟩
              · have hnk' : k ≤ n := by omega
                go_wp2
                go_ret2
                exact ⟨⟨_, by rw [hC.out]; rfl⟩, HK2.out⟩
            · go_wp2
              go_ret2
              exact ⟨⟨_, by rw [hC.out]; rfl⟩, HK2.out⟩
          · have hall' : Hid (∀ i, i < k + 1 → asksN ts (ts.getD i nd0) = true) := Lib.hid (fun i hi => by
              rcases Nat.lt_or_eq_of_le (Nat.lt_succ_iff.1 hi) with h | rfl
              · exact hall.out i h
              · exact Hq.out.symm)
            go_wp2_with fail
            refine hA.out.mono ?_
            rintro e w1 ⟨rfl, hk1⟩
            have HK1 := Lib.hid (HK.out.trans hk1)
            clear hk1 hA bt hall
            go_wp2
            go_roundw
            case rel => exact ⟨k + 1, by omega, by go_num, rfl, rfl, HK1.out, hall'⟩
            case measure => simp [intOf]; omega
        · obtain rfl : k = N := by omega
          have hM := Lib.hid (Met.out wr (H1.out.2.2.1.kbF hkb))
          have hAll := Lib.hid (Hgood.out hall.out)
          clear hkb hall
          go_wp2_with fail
          refine hM.out.mono ?_
          rintro e w2 ⟨⟨n, rfl⟩, hk2⟩
          have bt2 := hk2.cell (p := ⟨w0.heap.size, 0, none⟩) (fun x => x) bt
          have HK2 := Lib.hid ((H1.out.1.trans HK.out).trans hk2)
          have HT2 := Lib.hid (H1.out.2.2.1.kbF (HK.out.trans hk2))
          clear hk2 hM bt
          by_cases hw : Wt ts 0 = some k
          · rw [decide_eq_true hw]
            have hg : Good ts := ⟨by rw [← HN.out]; exact hpos, by rw [hw, HN.out]⟩
            have hD := Lib.hid (Dee.out hg w2 HT2.out)
            have hC : Hid (C = if 48 < deepN ts then 4 else 0) := Lib.hid (Cgood.out ⟨hAll.out, hw⟩)
            have hdb : deepN ts ≤ 20000 := by
              have := deepF_le ts ts.length 0
              have := HN.out
              unfold deepN; omega
            generalize deepN ts = d at hD hC hdb
            clear hw hg
            by_cases h48 : 48 < d
            · have hC2 : Hid (C = 4) := Lib.hid (by rw [hC.out, if_pos h48])
              go_wp2_with fail
              refine hD.out.mono ?_
              rintro e w3 ⟨rfl, hk3⟩
              have HK3 := Lib.hid (HK2.out.trans hk3)
              clear hk3 hD hC
              go_wp2
              go_ret2
              exact ⟨⟨0, by rw [hC2.out]; rfl⟩, HK3.out⟩
            · have hC2 : Hid (C = 0) := Lib.hid (by rw [hC.out, if_neg h48])
              have h48' : d ≤ 48 := by omega
              go_wp2_with fail
              refine hD.out.mono ?_
              rintro e w3 ⟨rfl, hk3⟩
              have HK3 := Lib.hid (HK2.out.trans hk3)
              clear hk3 hD hC
              go_wp2
              go_ret2
              exact ⟨⟨0, by rw [hC2.out]; rfl⟩, HK3.out⟩
          · rw [decide_eq_false hw]
            have hC : Hid (C = 30) := Lib.hid (Cbad.out (fun h => hw h.2))
            clear hw
            go_wp2
            go_ret2
            exact ⟨⟨n, by rw [hC.out]; rfl⟩, HK2.out⟩
theorem may_any (ts : List Nd) (hlen : ts.length < 100000000) (hok : ∀ x ∈ ts, NdOk x) (a : Option Addr) (cap : Nat) (w : World) (hts : NodesAt w a ts) (hT : Tab w) :
    Calls Tryz.prog 26 #[.agg #[.slice a ts.length cap]] w fun e w' => e = .returned (.bool (mayN ts)) ∧ KB F0 w w' := by
  obtain ⟨w0, rfl⟩ : ∃ w0, w0 = w := ⟨_, rfl⟩
  have ka := (KB.refl F0 w0).alloc (.cells #[.slice a ts.length cap] 24)
  have Hc := Lib.hid (check_any ts hlen hok a cap _ (hts.kbF ka) (hT.kb ka))
  obtain ⟨m, hm⟩ : ∃ m, m = mayN ts := ⟨_, rfl⟩
  have hm' : m = decide (chk ts = 0) := hm
  rw [← hm]
  have hle := chk_le ts
  generalize chk ts = c at Hc hm' hle
  generalize ts.length = N at *
  have Hm := Lib.hid hm'
  clear hm hm' hts hT hok
  go_enter Tryz.func26, Tryz.ntmps26
  go_wp2_with fail
  refine Hc.out.mono ?_
  rintro e w1 ⟨⟨at_, rfl⟩, hk1⟩
  have HK := Lib.hid (ka.trans hk1)
  clear hk1 Hc ka
  go_wp2
  go_ret
  refine ⟨?_, HK.out⟩
  rw [Hm.out]
  refine ret_eq ?_
  by_cases h : c = 0
  · subst h; rfl
  · have : ((c : Int) == 0) = false := by simpa using h
    simp [h, this]
end Go.Proofs.YtoophdcagpfmpaaGreatDoor

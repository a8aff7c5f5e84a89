/- The walk of tree.asks. -/
import Derived.Test.YtoophdcagpfmpaaGreatDoorTreeJ
namespace Go.Proofs.YtoophdcagpfmpaaGreatDoor
open Go.RowKit

theorem Tryz.infoKind : (Tryz.prog.info? 41).map (fun i => (i.zero, i.size, i.bytes)) = some (some (.int .u8 0), 1, 1) := by kernel_rfl
def kvals (ts : List Nd) (l : List Int) : List Value := l.map fun c => .int .u8 (kindOf ts c : Nat)

set_option maxRecDepth 100000 in
set_option maxHeartbeats 8000000 in
theorem asks_any (a : Option Addr) (ts : List Nd) (cap i : Nat) (w : World) (hlen : ts.length ≤ 20000) (hi : i < ts.length) (hts : NodesAt w a ts) (hok : ∀ x ∈ ts, NdOk x) (hT : Tab w) :
    Calls Tryz.prog 87 #[.agg #[.slice a ts.length cap], .int .i64 i] w fun e w' => e = .returned (.bool (asksN ts (ts.getD i nd0))) ∧ KB F0 w w' := by
  obtain ⟨w0, rfl⟩ : ∃ w0, w0 = w := ⟨_, rfl⟩
  obtain ⟨r, hr⟩ : ∃ r, r = asksN ts (ts.getD i nd0) := ⟨_, rfl⟩
  rw [← hr]
  obtain ⟨b, off, rfl, hx⟩ := hts i hi
  have hxo := hok _ (getD_memN hi)
  obtain ⟨x, hxd⟩ : ∃ x, x = ts.getD i nd0 := ⟨_, rfl⟩
  rw [← hxd] at hr hx hxo
  have Hr : Hid (r = (decide (0 ≤ x.at_) && decide (x.l.length ≤ ts.length) && x.l.all (inB ts) && askB x.k x.n x.s (x.l.map (kindOf ts)))) := Lib.hid hr
  obtain ⟨N, hN⟩ : ∃ N, N = ts.length := ⟨_, rfl⟩
  have ka := (KB.refl F0 w0).alloc (.cells #[.slice (some ⟨b, off, none⟩) N cap] 24)
  have hx1 := hx.kbF ka
  obtain ⟨la, lc, hl4, hints, hlc, hlm⟩ := hx1.l
  have c0 := hx1.k
  have c1 := hx1.at_
  have c2 := hx1.n
  have c3 := hx1.s
  have Hints := Lib.hid hints
  have HTS := Lib.hid (And.intro hts (And.intro hT (And.intro hok hxo)))
  have hat1 := hxo.at1
  have hat2 := hxo.at2
  obtain ⟨M, hM⟩ : ∃ M, M = x.l.length := ⟨_, rfl⟩
  rw [← hN] at hlen hi ⊢
  rw [← hM] at hl4 hlc
  have HN := Lib.hid hN
  have HM := Lib.hid hM
  have hiN : (i : Int) < (N : Int) := by omega
  unfold maxLen at hlm
  clear hr hx hx1 hints hts hT hok hxo hxd ka hN hM
  by_cases hneg : x.at_ < 0
  · have hr : Hid (r = false) := Lib.hid (by rw [Hr.out]; simp [show ¬ 0 ≤ x.at_ by omega])
    have d1 : decide (x.at_ < 0) = true := by simpa using hneg
    clear hneg
    go_enter Tryz.func87, Tryz.ntmps87
    go_wp2
    go_ret
    refine ⟨ret_eq (by rw [hr.out]; rfl), ?_⟩
    repeat (first | exact KB.refl _ _ | assumption | refine KB.drewN ?_ _ | refine KB.drew ?_ | refine KB.alloc ?_ _ | (refine KB.setCell ?_ (fun h => (by first | (simp at h; done) | (simp at h; omega) | (exfalso; simp at h; omega) | exact rfl)) _))
  · have d1 : decide (x.at_ < 0) = false := by simpa using hneg
    by_cases hbig : N < M
    · have hr : Hid (r = false) := Lib.hid (by rw [Hr.out, ← HM.out, ← HN.out]; simp [show ¬ M ≤ N by omega])
      have d2 : decide (N < M) = true := by simpa using hbig
      clear hneg hbig
      go_enter Tryz.func87, Tryz.ntmps87
      go_wp2
      go_ret
      refine ⟨ret_eq (by rw [hr.out]; rfl), ?_⟩
      repeat (first | exact KB.refl _ _ | assumption | refine KB.drewN ?_ _ | refine KB.drew ?_ | refine KB.alloc ?_ _ | (refine KB.setCell ?_ (fun h => (by first | (simp at h; done) | (simp at h; omega) | (exfalso; simp at h; omega) | exact rfl)) _))
    · have d2 : decide (N < M) = false := by simpa using hbig
      have hMN : M ≤ N := by omega
      have hr : Hid (r = (x.l.all (inB ts) && askB x.k x.n x.s (x.l.map (kindOf ts)))) := Lib.hid (by rw [Hr.out, ← HM.out, ← HN.out]; simp [show 0 ≤ x.at_ by omega, hMN])
      clear hneg hbig
      go_enter Tryz.func87, Tryz.ntmps87
      go_wp2_with fail
      obtain ⟨B1, hB1⟩ : ∃ B1, B1 = ((w0.alloc (.cells #[.slice (some ⟨b, off, none⟩) N cap] 24)).alloc (.cells #[.int .u8 (x.k : Nat), .int .i64 x.at_, .int .i64 x.n, .string x.s, .slice la M lc] 44)) := ⟨_, rfl⟩
      rw [← hB1]
      have kA : KB F0 (w0.alloc (.cells #[.slice (some ⟨b, off, none⟩) N cap] 24)) B1 := by rw [hB1]; exact (KB.refl _ _).alloc _
      have k1 : KB F0 w0 B1 := ((KB.refl _ _).alloc _).trans kA
      have bt : B1.cell? ⟨w0.heap.size, 0, none⟩ = some (.slice (some ⟨b, off, none⟩) N cap) := kA.cell (p := ⟨w0.heap.size, 0, none⟩) (fun x => x) (new_cell _ _ _ 0)
      have hs1 : (w0.alloc (.cells #[.slice (some ⟨b, off, none⟩) N cap] 24)).heap.size = w0.heap.size + 1 := by simp
      have bx : ∀ q, B1.cell? ⟨w0.heap.size + 1, q, none⟩ = (#[.int .u8 (x.k : Nat), .int .i64 x.at_, .int .i64 x.n, .string x.s, .slice la M lc] : Array Value)[q]? := fun q => by
        rw [hB1, ← hs1]; exact new_cell _ _ _ q
      have hI := Hints.out.kbF kA
      have H1 := Lib.hid (And.intro k1 (And.intro bt (And.intro bx (And.intro hI (HTS.out.1.kbF k1)))))
      clear hB1 kA k1 bt hs1 bx hI Hints c0 c1 c2 c3 hl4
      go_loopw [30, 6] (fun iv v wr => ∃ j : Nat, j ≤ M ∧ iv = .int .i64 j ∧ wr.ownsRow B1.heap.size 41 1 v j (kvals ts (x.l.take j)) ∧ Hid (∀ c ∈ x.l.take j, inB ts c = true) ∧ KB F0 B1 wr) (fun iv _ _ => M - (intOf iv).toNat)
      case atStart => exact ⟨0, by omega, rfl, World.ownsRow_nil _ _ _ _, (fun c hc => by simp at hc), KB.refl _ _⟩
      case round =>
        obtain ⟨j, hj, rfl, hown, hin, hkb⟩ := hrel
        by_cases hlt : j < M
        · obtain ⟨lb, lo, rfl, hcl⟩ := (H1.out.2.2.2.1) j (by rw [← HM.out]; exact hlt)
          have hcl := hkb.cell (p := ⟨lb, lo + j, none⟩) (fun x => x) hcl
          have hbt := hkb.cell (p := ⟨w0.heap.size, 0, none⟩) (fun x => x) H1.out.2.1
          have hmem := getD_memI (l := x.l) (k := j) (by rw [← HM.out]; exact hlt)
          have hrg := HTS.out.2.2.2.l _ hmem
          have htake : Hid (x.l.take (j + 1) = x.l.take j ++ [x.l.getD j 0]) := Lib.hid (by
            rw [List.take_succ_eq_append_getElem (by rw [← HM.out]; exact hlt), List.getD_eq_getElem?_getD, List.getElem?_eq_getElem (by rw [← HM.out]; exact hlt)]; rfl)
          have Hmem := Lib.hid hmem
          generalize x.l.getD j 0 = c at hcl hrg htake Hmem
          clear hmem
          have HK := Lib.hid (And.intro hown (And.intro hin hkb))
          clear hown hin hkb
          by_cases hc0 : c < 0
          · have hr2 : Hid (r = false) := Lib.hid (by
              rw [hr.out]
              have : x.l.all (inB ts) = false := by rw [List.all_eq_false]; exact ⟨c, Hmem.out, by simp [inB]; omega⟩
              rw [this, Bool.false_and])
            have t1 : decide (c < 0) = true := by simpa using hc0
            clear hc0
            go_wp2
            go_ret
            exact ⟨ret_eq (by rw [hr2.out]; rfl), H1.out.1.trans HK.out.2.2⟩
          · have t1 : decide (c < 0) = false := by simpa using hc0
            obtain ⟨q, rfl⟩ := Int.eq_ofNat_of_zero_le (show 0 ≤ c by omega)
            by_cases hcN : N ≤ q
            · have hr2 : Hid (r = false) := Lib.hid (by
                rw [hr.out]
                have : x.l.all (inB ts) = false := by rw [List.all_eq_false]; exact ⟨q, Hmem.out, by simp [inB, ← HN.out]; omega⟩
                rw [this, Bool.false_and])
              clear hc0
              go_wp2
              go_ret
              exact ⟨ret_eq (by rw [hr2.out]; rfl), H1.out.1.trans HK.out.2.2⟩
            · have hqN : (q : Int) < (N : Int) := by omega
              have hqn : q < N := by omega
              obtain ⟨nb, no, e, hnd⟩ := H1.out.2.2.2.2 q (by rw [← HN.out]; exact hqn)
              simp only [Option.some.injEq, Addr.mk.injEq, and_true] at e
              obtain ⟨rfl, rfl⟩ := e
              have ck := HK.out.2.2.cell (p := ⟨b, off + q * 5, none⟩) (fun x => x) hnd.k
              obtain ⟨kq, hkq⟩ : ∃ kq, kq = (ts.getD q nd0).k := ⟨_, rfl⟩
              rw [← hkq] at ck
              have Hkq := Lib.hid hkq
              clear hkq hnd hc0 hcN
              go_wp2_with (at_builtin; refine Stopped.out ?_)
              refine ⟨?_⟩
              refine app1 150 41 B1.heap.size (.int .u8 (kq : Nat)) Tryz.infoKind Tryz.underlying150 rfl (HK.out.1.alloc _) rfl rfl rfl rfl (new_cell _ _ _ 0) rfl (by unfold maxLen; omega) (by omega) (by have := HK.out.2.2.size; simp; omega) ?_
              intro v' w' hown' hgr
              have hk' : KB F0 B1 w' := (HK.out.2.2.alloc _).grown hgr (own_ge HK.out.1 (Nat.le_refl _))
              have HK' : Hid (w'.ownsRow B1.heap.size 41 1 v' (j + 1) (kvals ts (x.l.take (j + 1))) ∧ (∀ c ∈ x.l.take (j + 1), inB ts c = true) ∧ KB F0 B1 w') := Lib.hid (by
                refine ⟨?_, ?_, hk'⟩
                · rw [htake.out]
                  unfold kvals at hown' ⊢
                  rw [List.map_append, List.map_cons, List.map_nil]
                  have : kindOf ts (q : Int) = kq := by unfold kindOf; rw [Int.toNat_natCast, Hkq.out]
                  rw [this]; exact hown'
                · rw [htake.out]
                  intro c hc
                  rw [List.mem_append, List.mem_singleton] at hc
                  rcases hc with hc | rfl
                  · exact HK.out.2.1.out c hc
                  · simp [inB, ← HN.out]; omega)
              clear hown' hgr hk' ck
              go_wp2
              go_roundw
              case rel => exact ⟨j + 1, by omega, by go_num, HK'.out.1, HK'.out.2.1, HK'.out.2.2⟩
              case measure => simp [intOf]; omega
        · obtain rfl : M = j := by omega
          obtain ⟨va, vcap, rfl, hvc, -, hv0, -⟩ := own_shape hown
          have htk : x.l.take M = x.l := List.take_of_length_le (by rw [← HM.out]; exact Nat.le_refl _)
          rw [htk] at hv0 hin
          have hr3 : Hid (r = askB x.k x.n x.s (x.l.map (kindOf ts))) := Lib.hid (by
            rw [hr.out]
            have : x.l.all (inB ts) = true := by rw [List.all_eq_true]; exact hin.out
            rw [this, Bool.true_and])
          have hKA : KindsAt wr va (x.l.map (kindOf ts)) := by
            intro q hq
            rw [List.length_map] at hq
            obtain ⟨g, e, _, hc⟩ := hv0 q (by rw [Nat.mul_one, HM.out]; exact hq)
            refine ⟨g, 0, e, ?_⟩
            rw [Nat.zero_add, hc]
            unfold kvals
            simp [List.getD_eq_getElem?_getD, hq]
          have hlenK : (x.l.map (kindOf ts)).length = M := by rw [List.length_map]; exact HM.out.symm
          have Kw := Lib.hid (H1.out.1.trans hkb)
          have hTw := HTS.out.2.1.kb Kw.out
          have hxk := HTS.out.2.2.2.k
          have f0 := hkb.cell (p := ⟨w0.heap.size + 1, 0, none⟩) (fun x => x) (H1.out.2.2.1 0)
          have f1 := hkb.cell (p := ⟨w0.heap.size + 1, 1, none⟩) (fun x => x) (H1.out.2.2.1 1)
          have f2 := hkb.cell (p := ⟨w0.heap.size + 1, 2, none⟩) (fun x => x) (H1.out.2.2.1 2)
          have f3 := hkb.cell (p := ⟨w0.heap.size + 1, 3, none⟩) (fun x => x) (H1.out.2.2.1 3)
          have f4 := hkb.cell (p := ⟨w0.heap.size + 1, 4, none⟩) (fun x => x) (H1.out.2.2.1 4)
          have hIn := fun (h : 13 ≤ x.k) => inside_any x.k x.at_ x.n x.s la M lc va (x.l.map (kindOf ts)) vcap wr HTS.out.2.2.2.s (by rw [hlenK]; omega) hKA hTw HTS.out.2.2.2.n1 HTS.out.2.2.2.n2 h
          have hIt := fun (h : x.k ≤ 12) => items_any x.k x.at_ x.n x.s la M lc va (x.l.map (kindOf ts)) vcap wr HTS.out.2.2.2.s (by rw [hlenK]; omega) (by rw [hlenK]; exact hvc) hKA hTw HTS.out.2.2.2.n1 HTS.out.2.2.2.n2 h
          rw [hlenK] at hIn hIt
          obtain ⟨k, hk⟩ : ∃ k, k = x.k := ⟨_, rfl⟩
          rw [← hk] at hIn hIt hr3 f0 hxk
          have HIn := Lib.hid hIn
          have HIt := Lib.hid hIt
          clear hown hkb hv0 hin htk hKA hlenK hTw hIn hIt hk hr Hr
          by_cases h24 : 24 ≤ k
          · have d24 : decide ((24 : Int) ≤ (k : Int)) = true := by simp; omega
            have HC := Lib.hid (HIn.out (by omega))
            clear h24
            go_wp2_with fail
            refine HC.out.mono ?_
            rintro e w' ⟨rfl, hk'⟩
            go_wp2
            go_ret
            exact ⟨ret_eq (by rw [hr3.out]; rfl), Kw.out.trans hk'⟩
          · have d24 : decide ((24 : Int) ≤ (k : Int)) = false := by simp; omega
            by_cases h13 : k = 13
            · have d13 : ((k : Int) == 13) = true := by simp [h13]
              have HC := Lib.hid (HIn.out (by omega))
              clear h24 h13
              go_wp2_with fail
              refine HC.out.mono ?_
              rintro e w' ⟨rfl, hk'⟩
              go_wp2
              go_ret
              exact ⟨ret_eq (by rw [hr3.out]; rfl), Kw.out.trans hk'⟩
            · have d13 : ((k : Int) == 13) = false := by simp; omega
              by_cases h14 : 14 ≤ k
              · have d14 : decide ((14 : Int) ≤ (k : Int)) = true := by simp; omega
                have d23 : decide ((k : Int) ≤ (23 : Int)) = true := by simp; omega
                have HC := Lib.hid (HIn.out (by omega))
                clear h24 h13 h14
                go_wp2_with fail
                refine HC.out.mono ?_
                rintro e w' ⟨rfl, hk'⟩
                go_wp2
                go_ret
                exact ⟨ret_eq (by rw [hr3.out]; rfl), Kw.out.trans hk'⟩
              · have d14 : decide ((14 : Int) ≤ (k : Int)) = false := by simp; omega
                have HC := Lib.hid (HIt.out (by omega))
                clear h24 h13 h14
                go_wp2_with fail
                refine HC.out.mono ?_
                rintro e w' ⟨rfl, hk'⟩
                go_wp2
                go_ret
                exact ⟨ret_eq (by rw [hr3.out]; rfl), Kw.out.trans hk'⟩
end Go.Proofs.YtoophdcagpfmpaaGreatDoor

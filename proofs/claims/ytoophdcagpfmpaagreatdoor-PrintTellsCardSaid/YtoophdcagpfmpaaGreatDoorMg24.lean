/- The walk of tree.asks. The walk of tree.met. -/
import Derived.Test.YtoophdcagpfmpaaGreatDoorTreeJ
import Derived.Test.YtoophdcagpfmpaaGreatDoorTreeU
namespace Go.Proofs.YtoophdcagpfmpaaGreatDoor
open Go.RowKit

theorem Tryz.infoKind : (Tryz.prog.info? 41).map (fun i => (i.zero, i.size, i.bytes)) = some (some (.int .u8 0), 1, 1) := by kernel_rfl
def kvals (ts : List Nd) (l : List Int) : List Value := l.map fun c => .int .u8 (kindOf ts c : Nat)

set_option maxRecDepth 100000 in
set_option maxHeartbeats 8000000 in
theorem asks_any (a : Option Addr) (ts : List Nd) (cap i : Nat) (w : World) (hlen : ts.length ≤ 20000) (hi : i < ts.length) (hts : NodesAt w a ts) (hok : ∀ x ∈ ts, NdOk x) (hT : Tab w) :
    Calls Tryz.prog 87 #[.agg #[.slice a ts.length cap], .int .i64 i] w fun e w' => e = .returned (.bool (asksN ts (ts.getD i nd0))) ∧ KB F0 w w' := by
  obtain ⟨w0, rfl⟩ : ∃ w0, w0 = w := ⟨_, rfl⟩
  obtain ⟨r, hr⟩ : ∃ r, r = asksN ts (ts.getD i nd0) := ⟨_, rfl⟩
  rw [← hr]
  obtain ⟨b, off, rfl, hx⟩ := hts i hi
  have hxo := hok _ (getD_memN hi)
  obtain ⟨x, hxd⟩ : ∃ x, x = ts.getD i nd0 := ⟨_, rfl⟩
  rw [← hxd] at hr hx hxo
  have Hr : Hid (r = (decide (0 ≤ x.at_) && decide (x.l.length ≤ ts.length) && x.l.all (inB ts) && askB x.k x.n x.s (x.l.map (kindOf ts)))) := Lib.hid hr
  obtain ⟨N, hN⟩ : ∃ N, N = ts.length := ⟨_, rfl⟩
  have ka := (KB.refl F0 w0).alloc (.cells #[.slice (some ⟨b, off, none⟩) N cap] 24)
  have hx1 := hx.kbF ka
  obtain ⟨la, lc, hl4, hints, hlc, hlm⟩ := hx1.l
  have c0 := hx1.k
  have c1 := hx1.at_
  have c2 := hx1.n
  have c3 := hx1.s
  have Hints := Lib.hid hints
  have HTS := Lib.hid (And.intro hts (And.intro hT (And.intro hok hxo)))
  have hat1 := hxo.at1
  have hat2 := hxo.at2
  obtain ⟨M, hM⟩ : ∃ M, M = x.l.length := ⟨_, rfl⟩
  rw [← hN] at hlen hi ⊢
  rw [← hM] at hl4 hlc
  have HN := Lib.hid hN
  have HM := Lib.hid hM
  have hiN : (i : Int) < (N : Int) := by omega
  unfold maxLen at hlm
  clear hr hx hx1 hints hts hT hok hxo hxd ka hN hM
  by_cases hneg : x.at_ < 0
  · have hr : Hid (r = false) := Lib.hid (by rw [Hr.out]; simp [show ¬ 0 ≤ x.at_ by omega])
    have d1 : decide (x.at_ < 0) = true := by simpa using hneg
    clear hneg
    go_enter Tryz.func87, Tryz.ntmps87
    go_wp2
    go_ret
    refine ⟨ret_eq (by rw [hr.out]; rfl), ?_⟩
    repeat (first | exact KB.refl _ _ | assumption | refine KB.drewN ?_ _ | refine KB.drew ?_ | refine KB.alloc ?_ _ | (refine KB.setCell ?_ (fun h => (by first | (simp at h; done) | (simp at h; omega) | (exfalso; simp at h; omega) | exact rfl)) _))
  · have d1 : decide (x.at_ < 0) = false := by simpa using hneg
    by_cases hbig : N < M
    · have hr : Hid (r = false) := Lib.hid (by rw [Hr.out, ← HM.out, ← HN.out]; simp [show ¬ M ≤ N by omega])
      have d2 : decide (N < M) = true := by simpa using hbig
      clear hneg hbig
      go_enter Tryz.func87, Tryz.ntmps87
      go_wp2
      go_ret
      refine ⟨ret_eq (by rw [hr.out]; rfl), ?_⟩
      repeat (first | exact KB.refl _ _ | assumption | refine KB.drewN ?_ _ | refine KB.drew ?_ | refine KB.alloc ?_ _ | (refine KB.setCell ?_ (fun h => (by first | (simp at h; done) | (simp at h; omega) | (exfalso; simp at h; omega) | exact rfl)) _))
    · have d2 : decide (N < M) = false := by simpa using hbig
      have hMN : M ≤ N := by omega
      have hr : Hid (r = (x.l.all (inB ts) && askB x.k x.n x.s (x.l.map (kindOf ts)))) := Lib.hid (by rw [Hr.out, ← HM.out, ← HN.out]; simp [show 0 ≤ x.at_ by omega, hMN])
      clear hneg hbig
      go_enter Tryz.func87, Tryz.ntmps87
      go_wp2_with fail
      obtain ⟨B1, hB1⟩ : ∃ B1, B1 = ((w0.alloc (.cells #[.slice (some ⟨b, off, none⟩) N cap] 24)).alloc (.cells #[.int .u8 (x.k : Nat), .int .i64 x.at_, .int .i64 x.n, .string x.s, .slice la M lc] 44)) := ⟨_, rfl⟩
      rw [← hB1]
      have kA : KB F0 (w0.alloc (.cells #[.slice (some ⟨b, off, none⟩) N cap] 24)) B1 := by rw [hB1]; exact (KB.refl _ _).alloc _
      have k1 : KB F0 w0 B1 := ((KB.refl _ _).alloc _).trans kA
      have bt : B1.cell? ⟨w0.heap.size, 0, none⟩ = some (.slice (some ⟨b, off, none⟩) N cap) := kA.cell (p := ⟨w0.heap.size, 0, none⟩) (fun x => x) (new_cell _ _ _ 0)
      have hs1 : (w0.alloc (.cells #[.slice (some ⟨b, off, none⟩) N cap] 24)).heap.size = w0.heap.size + 1 := by simp
      have bx : ∀ q, B1.cell? ⟨w0.heap.size + 1, q, none⟩ = (#[.int .u8 (x.k : Nat), .int .i64 x.at_, .int .i64 x.n, .string x.s, .slice la M lc] : Array Value)[q]? := fun q => by
        rw [hB1, ← hs1]; exact new_cell _ _ _ q
      have hI := Hints.out.kbF kA
      have H1 := Lib.hid (And.intro k1 (And.intro bt (And.intro bx (And.intro hI (HTS.out.1.kbF k1)))))
      clear hB1 kA k1 bt hs1 bx hI Hints c0 c1 c2 c3 hl4
      go_loopw [30, 6] (fun iv v wr => ∃ j : Nat, j ≤ M ∧ iv = .int .i64 j ∧ wr.ownsRow B1.heap.size 41 1 v j (kvals ts (x.l.take j)) ∧ Hid (∀ c ∈ x.l.take j, inB ts c = true) ∧ KB F0 B1 wr) (fun iv _ _ => M - (intOf iv).toNat)
      case atStart => exact ⟨0, by omega, rfl, World.ownsRow_nil _ _ _ _, (fun c hc => by simp at hc), KB.refl _ _⟩
      case round =>
        obtain ⟨j, hj, rfl, hown, hin, hkb⟩ := hrel
        by_cases hlt : j < M
        · obtain ⟨lb, lo, rfl, hcl⟩ := (H1.out.2.2.2.1) j (by rw [← HM.out]; exact hlt)
          have hcl := hkb.cell (p := ⟨lb, lo + j, none⟩) (fun x => x) hcl
          have hbt := hkb.cell (p := ⟨w0.heap.size, 0, none⟩) (fun x => x) H1.out.2.1
          have hmem := getD_memI (l := x.l) (k := j) (by rw [← HM.out]; exact hlt)
          have hrg := HTS.out.2.2.2.l _ hmem
          have htake : Hid (x.l.take (j + 1) = x.l.take j ++ [x.l.getD j 0]) := Lib.hid (by
            rw [List.take_succ_eq_append_getElem (by rw [← HM.out]; exact hlt), List.getD_eq_getElem?_getD, List.getElem?_eq_getElem (by rw [← HM.out]; exact hlt)]; rfl)
          have Hmem := Lib.hid hmem
          generalize x.l.getD j 0 = c at hcl hrg htake Hmem
          clear hmem
          have HK := Lib.hid (And.intro hown (And.intro hin hkb))
          clear hown hin hkb
          by_cases hc0 : c < 0
          · have hr2 : Hid (r = false) := Lib.hid (by
              rw [hr.out]
              have : x.l.all (inB ts) = false := by rw [List.all_eq_false]; exact ⟨c, Hmem.out, by simp [inB]; omega⟩
              rw [this, Bool.false_and])
            have t1 : decide (c < 0) = true := by simpa using hc0
            clear hc0
            go_wp2
            go_ret
            exact ⟨ret_eq (by rw [hr2.out]; rfl), H1.out.1.trans HK.out.2.2⟩
          · have t1 : decide (c < 0) = false := by simpa using hc0
            obtain ⟨q, rfl⟩ := Int.eq_ofNat_of_zero_le (show 0 ≤ c by omega)
            by_cases hcN : N ≤ q
            · have hr2 : Hid (r = false) := Lib.hid (by
                rw [hr.out]
                have : x.l.all (inB ts) = false := by rw [List.all_eq_false]; exact ⟨q, Hmem.out, by simp [inB, ← HN.out]; omega⟩
                rw [this, Bool.false_and])
              clear hc0
              go_wp2
              go_ret
              exact ⟨ret_eq (by rw [hr2.out]; rfl), H1.out.1.trans HK.out.2.2⟩
            · have hqN : (q : Int) < (N : Int) := by omega
              have hqn : q < N := by omega
              obtain ⟨nb, no, e, hnd⟩ := H1.out.2.2.2.2 q (by rw [← HN.out]; exact hqn)
              simp only [Option.some.injEq, Addr.mk.injEq, and_true] at e
              obtain ⟨rfl, rfl⟩ := e
              have ck := HK.out.2.2.cell (p := ⟨b, off + q * 5, none⟩) (fun x => x) hnd.k
              obtain ⟨kq, hkq⟩ : ∃ kq, kq = (ts.getD q nd0).k := ⟨_, rfl⟩
              rw [← hkq] at ck
              have Hkq := Lib.hid hkq
              clear hkq hnd hc0 hcN
              go_wp2_with (at_builtin; refine Stopped.out ?_)
              refine ⟨?_⟩
              refine app1 150 41 B1.heap.size (.int .u8 (kq : Nat)) Tryz.infoKind Tryz.underlying150 rfl (HK.out.1.alloc _) rfl rfl rfl rfl (new_cell _ _ _ 0) rfl (by unfold maxLen; omega) (by omega) (by have := HK.out.2.2.size; simp; omega) ?_
              intro v' w' hown' hgr
              have hk' : KB F0 B1 w' := (HK.out.2.2.alloc _).grown hgr (own_ge HK.out.1 (Nat.le_refl _))
              have HK' : Hid (w'.ownsRow B1.heap.size 41 1 v' (j + 1) (kvals ts (x.l.take (j + 1))) ∧ (∀ c ∈ x.l.take (j + 1), inB ts c = true) ∧ KB F0 B1 w') := Lib.hid (by
                refine ⟨?_, ?_, hk'⟩
                · rw [htake.out]
                  unfold kvals at hown' ⊢
                  rw [List.map_append, List.map_cons, List.map_nil]
                  have : kindOf ts (q : Int) = kq := by unfold kindOf; rw [Int.toNat_natCast, Hkq.out]
                  rw [this]; exact hown'
                · rw [htake.out]
                  intro c hc
                  rw [List.mem_append, List.mem_singleton] at hc
                  rcases hc with hc | rfl
                  · exact HK.out.2.1.out c hc
                  · simp [inB, ← HN.out]; omega)
              clear hown' hgr hk' ck
              go_wp2
              go_roundw
              case rel => exact ⟨j + 1, by omega, by go_num, HK'.out.1, HK'.out.2.1, HK'.out.2.2⟩
              case measure => simp [intOf]; omega
        · obtain rfl : M = j := by omega
          obtain ⟨va, vcap, rfl, hvc, -, hv0, -⟩ := own_shape hown
          have htk : x.l.take M = x.l := List.take_of_length_le (by rw [← HM.out]; exact Nat.le_refl _)
          rw [htk] at hv0 hin
          have hr3 : Hid (r = askB x.k x.n x.s (x.l.map (kindOf ts))) := Lib.hid (by
            rw [hr.out]
            have : x.l.all (inB ts) = true := by rw [List.all_eq_true]; exact hin.out
            rw [this, Bool.true_and])
          have hKA : KindsAt wr va (x.l.map (kindOf ts)) := by
            intro q hq
            rw [List.length_map] at hq
            obtain ⟨g, e, _, hc⟩ := hv0 q (by rw [Nat.mul_one, HM.out]; exact hq)
            refine ⟨g, 0, e, ?_⟩
            rw [Nat.zero_add, hc]
            unfold kvals
            simp [List.getD_eq_getElem?_getD, hq]
          have hlenK : (x.l.map (kindOf ts)).length = M := by rw [List.length_map]; exact HM.out.symm
          have Kw := Lib.hid (H1.out.1.trans hkb)
          have hTw := HTS.out.2.1.kb Kw.out
          have hxk := HTS.out.2.2.2.k
          have f0 := hkb.cell (p := ⟨w0.heap.size + 1, 0, none⟩) (fun x => x) (H1.out.2.2.1 0)
          have f1 := hkb.cell (p := ⟨w0.heap.size + 1, 1, none⟩) (fun x => x) (H1.out.2.2.1 1)
          have f2 := hkb.cell (p := ⟨w0.heap.size + 1, 2, none⟩) (fun x => x) (H1.out.2.2.1 2)
          have f3 := hkb.cell (p := ⟨w0.heap.size + 1, 3, none⟩) (fun x => x) (H1.out.2.2.1 3)
          have f4 := hkb.cell (p := ⟨w0.heap.size + 1, 4, none⟩) (fun x => x) (H1.out.2.2.1 4)
          have hIn := fun (h : 13 ≤ x.k) => inside_any x.k x.at_ x.n x.s la M lc va (x.l.map (kindOf ts)) vcap wr HTS.out.2.2.2.s (by rw [hlenK]; omega) hKA hTw HTS.out.2.2.2.n1 HTS.out.2.2.2.n2 h
          have hIt := fun (h : x.k ≤ 12) => items_any x.k x.at_ x.n x.s la M lc va (x.l.map (kindOf ts)) vcap wr HTS.out.2.2.2.s (by rw [hlenK]; omega) (by rw [hlenK]; exact hvc) hKA hTw HTS.out.2.2.2.n1 HTS.out.2.2.2.n2 h
          rw [hlenK] at hIn hIt
          obtain ⟨k, hk⟩ : ∃ k, k = x.k := ⟨_, rfl⟩
          rw [← hk] at hIn hIt hr3 f0 hxk
          have HIn := Lib.hid hIn
          have HIt := Lib.hid hIt
          clear hown hkb hv0 hin htk hKA hlenK hTw hIn hIt hk hr Hr
          by_cases h24 : 24 ≤ k
          · have d24 : decide ((24 : Int) ≤ (k : Int)) = true := by simp; omega
            have HC := Lib.hid (HIn.out (by omega))
            clear h24
            go_wp2_with fail
            refine HC.out.mono ?_
            rintro e w' ⟨rfl, hk'⟩
            go_wp2
            go_ret
            exact ⟨ret_eq (by rw [hr3.out]; rfl), Kw.out.trans hk'⟩
          · have d24 : decide ((24 : Int) ≤ (k : Int)) = false := by simp; omega
            by_cases h13 : k = 13
            · have d13 : ((k : Int) == 13) = true := by simp [h13]
              have HC := Lib.hid (HIn.out (by omega))
              clear h24 h13
              go_wp2_with fail
              refine HC.out.mono ?_
              rintro e w' ⟨rfl, hk'⟩
              go_wp2
              go_ret
              exact ⟨ret_eq (by rw [hr3.out]; rfl), Kw.out.trans hk'⟩
            · have d13 : ((k : Int) == 13) = false := by simp; omega
              by_cases h14 : 14 ≤ k
              · have d14 : decide ((14 : Int) ≤ (k : Int)) = true := by simp; omega
                have d23 : decide ((k : Int) ≤ (23 : Int)) = true := by simp; omega
                have HC := Lib.hid (HIn.out (by omega))
                clear h24 h13 h14
                go_wp2_with fail
                refine HC.out.mono ?_
                rintro e w' ⟨rfl, hk'⟩
                go_wp2
                go_ret
                exact ⟨ret_eq (by rw [hr3.out]; rfl), Kw.out.trans hk'⟩
              · have d14 : decide ((14 : Int) ≤ (k : Int)) = false := by simp; omega
                have HC := Lib.hid (HIt.out (by omega))
                clear h24 h13 h14
                go_wp2_with fail
                refine HC.out.mono ?_
                rintro e w' ⟨rfl, hk'⟩
                go_wp2
                go_ret
                exact ⟨ret_eq (by rw [hr3.out]; rfl), Kw.out.trans hk'⟩
end Go.Proofs.YtoophdcagpfmpaaGreatDoor

namespace Go.Proofs.YtoophdcagpfmpaaGreatDoor
open Go.RowKit

/-- What is left to be met, of a stack of nodes (the top first). -/
def runS (ts : List Nd) : List (Nat × Nat) → Nat → Option Nat
  | [], m => some m
  | p :: st, m => (walkC (Wt ts) ts.length ((ts.getD p.1 nd0).l.drop p.2) m).bind (runS ts st)
theorem runS_start {ts : List Nd} (h : 0 < ts.length) : runS ts [(0, 0)] 1 = Wt ts 0 := by
  rw [Wt_eq h]
  simp only [runS, List.drop_zero, Nat.zero_add]
  cases walkC (Wt ts) ts.length (ts.getD 0 nd0).l 1 <;> rfl
theorem runS_pop {ts : List Nd} {n c m : Nat} {st : List (Nat × Nat)} (h : (ts.getD n nd0).l.length ≤ c) : runS ts ((n, c) :: st) m = runS ts st m := by
  simp only [runS, List.drop_of_length_le h, walkC, Option.bind_some]
theorem drop_getD {l : List Int} {c : Nat} (h : c < l.length) : l.drop c = l.getD c 0 :: l.drop (c + 1) := by
  rw [List.drop_eq_getElem_cons h, List.getD_eq_getElem?_getD, List.getElem?_eq_getElem h]; rfl
theorem runS_push {ts : List Nd} {n c m : Nat} {st : List (Nat × Nat)} (h : c < (ts.getD n nd0).l.length) :
    runS ts ((n, c) :: st) m = if (ts.getD n nd0).l.getD c 0 = (m : Int) ∧ m < ts.length then runS ts ((m, 0) :: (n, c + 1) :: st) (m + 1) else none := by
  have hd := drop_getD h
  by_cases hc : (ts.getD n nd0).l.getD c 0 = (m : Int) ∧ m < ts.length
  · rw [if_pos hc]
    simp only [runS, hd, walkC, if_pos hc, List.drop_zero]
    rw [← Wt_eq hc.2]
    cases Wt ts m <;> rfl
  · rw [if_neg hc]
    simp only [runS, hd, walkC, if_neg hc]
    rfl

def pairs (fs : List (Nat × Nat)) : List Value := fs.flatMap fun p => [.int .i64 (p.1 : Nat), .int .i64 (p.2 : Nat)]
theorem pairs_len (fs : List (Nat × Nat)) : (pairs fs).length = fs.length * 2 := by
  unfold pairs
  induction fs with
  | nil => rfl
  | cons p fs ih => rw [List.flatMap_cons, List.length_append, ih, List.length_cons]; simp; omega
theorem pairs_app (fs : List (Nat × Nat)) (n c : Nat) : pairs (fs ++ [(n, c)]) = pairs fs ++ [.int .i64 (n : Nat), .int .i64 (c : Nat)] := by
  simp [pairs]
theorem top_at {w : World} {B : Nat} {e : TypeId} {v : Value} {fs : List (Nat × Nat)} {n c : Nat} (h : w.ownsRow B e 2 v (fs.length + 1) (pairs (fs ++ [(n, c)]))) :
    ∃ g cap, v = .slice (some ⟨g, 0, none⟩) (fs.length + 1) cap ∧ B ≤ g ∧ fs.length + 1 ≤ cap ∧ cap ≤ maxLen ∧ w.cell? ⟨g, fs.length * 2, none⟩ = some (.int .i64 (n : Nat)) ∧
      w.cell? ⟨g, fs.length * 2 + 1, none⟩ = some (.int .i64 (c : Nat)) ∧ w.frozen? ⟨g, fs.length * 2 + 1, none⟩ = false ∧
      w.ownsRow B e 2 (.slice (some ⟨g, 0, none⟩) fs.length cap) fs.length (pairs fs) ∧
      ∀ c' : Nat, (w.setCell ⟨g, fs.length * 2 + 1, none⟩ (.int .i64 (c' : Nat))).ownsRow B e 2 (.slice (some ⟨g, 0, none⟩) (fs.length + 1) cap) (fs.length + 1) (pairs (fs ++ [(n, c')])) := by
  obtain ⟨h1, h2⟩ := h
  rcases h2 with ⟨-, h2⟩ | ⟨g, cap, cur, hv, hg, hh, hcap, hm, hsz, hx⟩
  · omega
  · rw [pairs_app] at hx
    have hp := pairs_len fs
    have hi : ∀ i, i < 2 → cur[fs.length * 2 + i]? = ([.int .i64 (n : Nat), .int .i64 (c : Nat)] : List Value)[i]? := by
      intro i hi
      have e := congrArg (fun l => l[fs.length * 2 + i]?) hx
      simp only [List.getElem?_take] at e
      rw [if_pos (by omega), List.getElem?_append_right (by omega), hp] at e
      simpa using e
    refine ⟨g, cap, hv, hg, hcap, hm, ?_, ?_, ?_, ⟨hp, Or.inr ⟨g, cap, cur, rfl, hg, hh, by omega, hm, hsz, ?_⟩⟩, fun c' => ⟨by rw [pairs_len, List.length_append]; rfl, Or.inr ⟨g, cap, cur.setIfInBounds (fs.length * 2 + 1) (.int .i64 (c' : Nat)), rfl, hg, ?_, hcap, hm, by rw [Array.size_setIfInBounds]; exact hsz, ?_⟩⟩⟩
    · simp only [World.cell?, hh]; simpa using hi 0 (by omega)
    · simp only [World.cell?, hh]; simpa using hi 1 (by omega)
    · simp [World.frozen?, hh]
    · have e := congrArg (List.take (fs.length * 2)) hx
      rw [List.take_take, Nat.min_eq_left (by omega), ← hp, List.take_left] at e
      rw [← hp]; exact e
    · simp [World.setCell, Array.getElem?_modify, hh]
    · rw [Array.toList_setIfInBounds, List.take_set, hx, List.set_append_right _ _ (by omega), hp, pairs_app]
      congr 1
      rw [show fs.length * 2 + 1 - fs.length * 2 = 1 by omega]; rfl
def sliceLen : Value → Nat
  | .slice _ n _ => n
  | _ => 0
theorem Tryz.infoOpen : (Tryz.prog.info? 154).map (fun i => (i.zero, i.size, i.bytes)) = some (some (.agg #[.int .i64 0, .int .i64 0]), 2, 16) := by kernel_rfl

set_option maxRecDepth 100000 in
set_option maxHeartbeats 8000000 in
theorem met_any (ts : List Nd) (hlen : ts.length ≤ 20000) (h0 : 0 < ts.length) (hok : ∀ x ∈ ts, NdOk x) (a : Option Addr) (cap : Nat) (w : World) (hts : NodesAt w a ts) :
    Calls Tryz.prog 88 #[.agg #[.slice a ts.length cap]] w fun e w' => (∃ n : Nat, e = .returned (.tuple #[.int .i64 (n : Nat), .bool (decide (Wt ts 0 = some ts.length))])) ∧ KB F0 w w' := by
  obtain ⟨w0, rfl⟩ : ∃ w0, w0 = w := ⟨_, rfl⟩
  obtain ⟨r, hr⟩ : ∃ r, r = Wt ts 0 := ⟨_, rfl⟩
  rw [← hr]
  obtain ⟨b, off, rfl, -⟩ := hts 0 h0
  have Hr : Hid (r = runS ts [(0, 0)] 1) := Lib.hid (by rw [hr, runS_start h0])
  obtain ⟨N, hN⟩ : ∃ N, N = ts.length := ⟨_, rfl⟩
  rw [← hN] at hlen h0 ⊢
  have HN := Lib.hid hN
  have HTS := Lib.hid (And.intro hts hok)
  clear hr hts hok hN
  go_enter Tryz.func88, Tryz.ntmps88
  go_wp2_with fail
  obtain ⟨B1, hB1⟩ : ∃ B1, B1 = (w0.alloc (.cells #[.slice (some ⟨b, off, none⟩) N cap] 24)) := ⟨_, rfl⟩
  rw [← hB1]
  have k1 : KB F0 w0 B1 := by rw [hB1]; exact (KB.refl _ _).alloc _
  have bt : B1.cell? ⟨w0.heap.size, 0, none⟩ = some (.slice (some ⟨b, off, none⟩) N cap) := by rw [hB1]; exact new_cell _ _ _ 0
  have hs1 : B1.heap.size = w0.heap.size + 1 := by rw [hB1]; simp
  rw [← hs1]
  have hown0 : (B1.alloc (.cells #[.int .i64 0, .int .i64 0] 154)).ownsRow B1.heap.size 154 2 (.slice (some ⟨B1.heap.size, 0, none⟩) 1 1) 1 (pairs [(0, 0)]) :=
    ⟨rfl, Or.inr ⟨B1.heap.size, 1, _, rfl, Nat.le_refl _, alloc_new _ _, Nat.le_refl _, by decide, rfl, rfl⟩⟩
  have H1 := Lib.hid (And.intro k1 (And.intro bt (HTS.out.1.kbF k1)))
  have Hown0 := Lib.hid hown0
  clear hB1 k1 bt hs1 hown0
  go_loopw [4, 5] (fun v mv wr => ∃ (fs : List (Nat × Nat)) (m : Nat), fs.length ≤ m ∧ m ≤ N ∧ mv = .int .i64 m ∧ wr.ownsRow B1.heap.size 154 2 v fs.length (pairs fs) ∧ Hid (∀ p ∈ fs, p.1 < N ∧ p.2 ≤ (ts.getD p.1 nd0).l.length) ∧ Hid (r = runS ts fs.reverse m) ∧ KB F0 B1 wr) (fun v mv _ => 2 * (N - (intOf mv).toNat) + sliceLen v)
  case atStart => exact ⟨[(0, 0)], 1, Nat.le_refl _, by omega, rfl, Hown0.out, Lib.hid (by intro p hp; simp at hp; subst hp; exact ⟨h0, Nat.zero_le _⟩), Hr, (KB.refl _ _).alloc _⟩
  case round =>
    obtain ⟨fs, m, hfm, hmN, rfl, hown, hfs, hw, hkb⟩ := hrel
    have hbt := hkb.cell (p := ⟨w0.heap.size, 0, none⟩) (fun x => x) H1.out.2.1
    rcases List.eq_nil_or_concat fs with rfl | ⟨fs0, ⟨p, c⟩, hfe⟩
    · obtain ⟨va, vcap, rfl, -, -, -, -⟩ := own_shape (n := 0) hown
      have hr2 : Hid (r = some m) := hw
      have hkb' := Lib.hid hkb
      clear hown hfs hw hkb
      go_wp2_with fail
      refine wp_region_rv 8 GQ (kindV []) (by kernel_rfl) (by kernel_rfl) GQ.trans GQ.refl (GQ.start _) (kindV_mono _) ?_
      simp only [List.take_succ_cons, List.take_zero, List.drop_succ_cons, List.drop_zero]
      iterate 8 (refine rv_det (by kernel_rfl) rfl (by intro w hG hH; obtain ⟨n, rfl⟩ := hG; go_simp; first | done | with_reducible rfl) ?_; simp only [Act.put, List.setIfInBounds_toArray, List.set_cons_zero, List.set_cons_succ])
      refine rv_nil (fun w hG hH => ?_)
      obtain ⟨n, rfl⟩ := hG
      clear hH
      go_wp2
      go_ret2
      refine ⟨⟨m, ?_⟩, ?_⟩
      · rw [hr2.out]
        refine ret_eq (tup2 rfl ?_)
        by_cases h : m = N
        · simp [h]
        · have h' : ¬ ((m : Int) = (N : Int)) := by omega
          simp [h, h']
      · exact H1.out.1.trans (hkb'.out.drewN _)
    · rw [List.concat_eq_append] at hfe
      subst hfe
      rw [List.length_append, List.length_singleton] at hown hfm
      obtain ⟨g, scap, rfl, hg, hsc, hscm, cn, cc, fz, hpop, hset⟩ := top_at hown
      have hnc := hfs.out (p, c) (by simp)
      have hn : p < N := hnc.1
      have hcM : c ≤ (ts.getD p nd0).l.length := hnc.2
      have hiN : (p : Int) < (N : Int) := by omega
      obtain ⟨nb, no, e, hnd⟩ := H1.out.2.2 p (by rw [← HN.out]; exact hn)
      simp only [Option.some.injEq, Addr.mk.injEq, and_true] at e
      obtain ⟨rfl, rfl⟩ := e
      obtain ⟨la, lc, hl4, hints, hlc, hlm⟩ := (hnd.kbF hkb).l
      have hxl := (HTS.out.2 _ (getD_memN (ts := ts) (k := p) (by rw [← HN.out]; exact hn))).l
      rw [List.reverse_append, List.reverse_singleton, List.singleton_append] at hw
      have hpu : ∀ h : c < (ts.getD p nd0).l.length, _ := fun h => runS_push (m := m) (st := fs0.reverse) h
      have hpo := runS_pop (ts := ts) (n := p) (c := c) (m := m) (st := fs0.reverse)
      obtain ⟨L, hL⟩ : ∃ L, L = (ts.getD p nd0).l := ⟨_, rfl⟩
      rw [← hL] at hl4 hints hlc hxl hpu hpo hcM
      obtain ⟨M, hM⟩ : ∃ M, M = L.length := ⟨_, rfl⟩
      rw [← hM] at hl4 hlc hpu hpo hcM
      obtain ⟨K, hK⟩ : ∃ K, K = fs0.length := ⟨_, rfl⟩
      rw [← hK] at hown hfm hsc cn cc fz hpop hset ⊢
      rw [← HN.out] at hpu
      unfold maxLen at hscm hlm
      have HK := Lib.hid (And.intro hkb (And.intro hpop (And.intro hset (And.intro hints (And.intro hxl hfs)))))
      have HM := Lib.hid hM
      have HKe := Lib.hid hK
      have HL := Lib.hid hL
      have Hpu := Lib.hid hpu
      have Hpo := Lib.hid hpo
      have hKs : K ≤ scap := by omega
      clear hown hnc hnd hkb hpop hset hints hxl hfs hM hK hL hpu hpo
      by_cases hcm : c = M
      · subst hcm
        have hr2 : Hid (r = runS ts fs0.reverse m) := Lib.hid (by rw [hw.out]; exact Hpo.out (Nat.le_refl _))
        clear hw fz
        go_wp2_with fail
        refine wp_region_rv 10 GQ (kindV []) (by kernel_rfl) (by kernel_rfl) GQ.trans GQ.refl (GQ.start _) (kindV_mono _) ?_
        simp only [List.take_succ_cons, List.take_zero, List.drop_succ_cons, List.drop_zero]
        iterate 10 (refine rv_det (by kernel_rfl) rfl (by intro w hG hH; obtain ⟨n, rfl⟩ := hG; go_simp; first | done | with_reducible rfl) ?_; simp only [Act.put, List.setIfInBounds_toArray, List.set_cons_zero, List.set_cons_succ])
        refine rv_nil (fun w hG hH => ?_)
        obtain ⟨n, rfl⟩ := hG
        clear hH
        replace HK := HK
        have hkb' := Lib.hid (HK.out.1.drewN n)
        have hpop' := Lib.hid (own_drewN HK.out.2.1 n)
        clear hbt cn hl4
        go_wp2
        go_roundw
        case rel =>
          refine ⟨fs0, m, by rw [← HKe.out]; omega, by omega, rfl, ?_, Lib.hid (fun q hq => HK.out.2.2.2.2.2.out q (List.mem_append_left _ hq)), hr2, hkb'.out⟩
          rw [← HKe.out]; exact hpop'.out
        case measure => simp [intOf, sliceLen]
      · have hlt : c < M := by omega
        obtain ⟨lb, lo, rfl, hcl⟩ := HK.out.2.2.2.1 c (by rw [← HM.out]; exact hlt)
        have hrg := HK.out.2.2.2.2.1 _ (getD_memI (l := L) (k := c) (by rw [← HM.out]; exact hlt))
        have hpu := Hpu.out hlt
        generalize L.getD c 0 = ch at hcl hrg hpu
        rw [hpu] at hw
        have hneq : ¬ c = M := hcm
        by_cases hok : ch = (m : Int) ∧ m < N
        · obtain ⟨rfl, hmN2⟩ := hok
          have hr2 : Hid (r = runS ts ((m, 0) :: (p, c + 1) :: fs0.reverse) (m + 1)) := Lib.hid (by rw [hw.out, if_pos ⟨rfl, hmN2⟩])
          clear hw hpu
          go_wp2_with fail
          refine wp_region_rv 10 GQ (kindV []) (by kernel_rfl) (by kernel_rfl) GQ.trans GQ.refl (GQ.start _) (kindV_mono _) ?_
          simp only [List.take_succ_cons, List.take_zero, List.drop_succ_cons, List.drop_zero]
          iterate 10 (refine rv_det (by kernel_rfl) rfl (by intro w hG hH; obtain ⟨n, rfl⟩ := hG; go_simp; first | done | with_reducible rfl) ?_; simp only [Act.put, List.setIfInBounds_toArray, List.set_cons_zero, List.set_cons_succ])
          refine rv_nil (fun w hG hH => ?_)
          obtain ⟨n, rfl⟩ := hG
          clear hH
          have HS := Lib.hid (own_drewN (HK.out.2.2.1 (c + 1)) n)
          have Hkb := Lib.hid ((HK.out.1.drewN n).setCell (p := ⟨g, K * 2 + 1, none⟩) (fun h => by have : g < B1.heap.size := h; omega) (.int .i64 ((c + 1 : Nat) : Int)))
          go_wp2_with (at_builtin; refine Stopped.out ?_)
          refine ⟨?_⟩
          refine appRow 155 154 B1.heap.size [.int .i64 (m : Nat), .int .i64 0] Tryz.infoOpen Tryz.underlying155 rfl (by decide) (HS.out.alloc _) rfl rfl rfl rfl (by first | exact alloc_new _ _ | (have e9 := alloc_new ((wr.drewN n).setCell ⟨g, K * 2 + 1, none⟩ (.int .i64 ((c + 1 : Nat) : Int))) (.cells #[.int .i64 (m : Nat), .int .i64 0] 154); simpa [World.setCell] using e9)) rfl
            (by intro u hu; simp at hu; rcases hu with rfl | rfl <;> rfl) (by unfold maxLen; omega) (by omega) ((Hkb.out.alloc _).size) ?_
          intro v' w' hown' hgr
          obtain ⟨a', cap', rfl, -, -, -, -⟩ := own_shape hown'
          have hk' := (Hkb.out.alloc _).grown hgr (own_ge (HS.out.alloc (.cells #[] 154)) (Nat.le_refl _))
          have HK' := Lib.hid (And.intro hown' hk')
          clear hown' hgr hk' hbt cn cc fz hl4 hcl
          go_wp2
          go_roundw
          case rel =>
            refine ⟨fs0 ++ [(p, c + 1), (m, 0)], m + 1, ?_, by omega, by go_num, ?_, Lib.hid (fun q hq => ?_), ?_, HK'.out.2⟩
            · rw [List.length_append, ← HKe.out]; simp; omega
            · have e1 : (fs0 ++ [(p, c + 1), (m, 0)]).length = K + 1 + 1 := by rw [List.length_append, ← HKe.out]; rfl
              have e2 : pairs (fs0 ++ [(p, c + 1), (m, 0)]) = pairs (fs0 ++ [(p, c + 1)]) ++ [.int .i64 (m : Nat), .int .i64 0] := by simp [pairs]
              rw [e1, e2]
              exact HK'.out.1
            · rcases List.mem_append.1 hq with hq | hq
              · exact HK.out.2.2.2.2.2.out q (List.mem_append_left _ hq)
              · simp at hq
                rcases hq with rfl | rfl
                · refine ⟨hn, ?_⟩
                  show c + 1 ≤ (ts.getD p nd0).l.length
                  rw [← HL.out, ← HM.out]; omega
                · exact ⟨hmN2, Nat.zero_le _⟩
            · rw [List.reverse_append]
              exact hr2
          case measure => simp [intOf, sliceLen]; omega
        · have hr2 : Hid (r = none) := Lib.hid (by rw [hw.out, if_neg hok])
          clear hw hpu
          by_cases hcm2 : ch = (m : Int)
          · obtain rfl : N = m := by have : ¬ m < N := fun h => hok ⟨hcm2, h⟩; omega
            subst hcm2
            clear hok hrg
            go_wp2_with fail
            refine wp_region_rv 10 GQ (kindV []) (by kernel_rfl) (by kernel_rfl) GQ.trans GQ.refl (GQ.start _) (kindV_mono _) ?_
            simp only [List.take_succ_cons, List.take_zero, List.drop_succ_cons, List.drop_zero]
            iterate 10 (refine rv_det (by kernel_rfl) rfl (by intro w hG hH; obtain ⟨n, rfl⟩ := hG; go_simp; first | done | with_reducible rfl) ?_; simp only [Act.put, List.setIfInBounds_toArray, List.set_cons_zero, List.set_cons_succ])
            refine rv_nil (fun w hG hH => ?_)
            obtain ⟨n, rfl⟩ := hG
            clear hH
            have hkb' := Lib.hid (HK.out.1.drewN n)
            go_wp2
            go_ret2
            exact ⟨⟨p, by rw [hr2.out]; rfl⟩, H1.out.1.trans hkb'.out⟩
          · have d1 : (ch != (m : Int)) = true := by simpa using hcm2
            have d2 : (ch == (m : Int)) = false := by simpa using hcm2
            clear hok
            go_wp2_with fail
            refine wp_region_rv 10 GQ (kindV []) (by kernel_rfl) (by kernel_rfl) GQ.trans GQ.refl (GQ.start _) (kindV_mono _) ?_
            simp only [List.take_succ_cons, List.take_zero, List.drop_succ_cons, List.drop_zero]
            iterate 10 (refine rv_det (by kernel_rfl) rfl (by intro w hG hH; obtain ⟨n, rfl⟩ := hG; go_simp; first | done | with_reducible rfl) ?_; simp only [Act.put, List.setIfInBounds_toArray, List.set_cons_zero, List.set_cons_succ])
            refine rv_nil (fun w hG hH => ?_)
            obtain ⟨n, rfl⟩ := hG
            clear hH
            have hkb' := Lib.hid (HK.out.1.drewN n)
            go_wp2
            go_ret2
            exact ⟨⟨p, by rw [hr2.out]; rfl⟩, H1.out.1.trans hkb'.out⟩
end Go.Proofs.YtoophdcagpfmpaaGreatDoor

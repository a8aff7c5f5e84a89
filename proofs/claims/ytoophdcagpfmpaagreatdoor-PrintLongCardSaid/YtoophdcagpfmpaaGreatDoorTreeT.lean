/- The walk of tree.met. -/
import Derived.Test.YtoophdcagpfmpaaGreatDoorTreeU
import Derived.Test.YtoophdcagpfmpaaGreatDoorTreeK
namespace Go.Proofs.YtoophdcagpfmpaaGreatDoor
open Go.RowKit

/-- What is left to be met, of a stack of nodes (the top first). -/
def runS (ts : List Nd) : List (Nat × Nat) → Nat → Option Nat
  | [], m => some m
  | p :: st, m => (walkC (Wt ts) ts.length ((ts.getD p.1 nd0).l.drop p.2) m).bind (runS ts st)
theorem runS_start {ts : List Nd} (h : 0 < ts.length) : runS ts [(0, 0)] 1 = Wt ts 0 := by
  rw [Wt_eq h]
  simp only [runS, List.drop_zero, Nat.zero_add]
  cases walkC (Wt ts) ts.length (ts.getD 0 nd0).l 1 <;> rfl
theorem runS_pop {ts : List Nd} {n c m : Nat} {st : List (Nat × Nat)} (h : (ts.getD n nd0).l.length ≤ c) : runS ts ((n, c) :: st) m = runS ts st m := by
  simp only [runS, List.drop_of_length_le h, walkC, Option.bind_some]
theorem drop_getD {l : List Int} {c : Nat} (h : c < l.length) : l.drop c = l.getD c 0 :: l.drop (c + 1) := by
  rw [List.drop_eq_getElem_cons h, List.getD_eq_getElem?_getD, List.getElem?_eq_getElem h]; rfl
theorem runS_push {ts : List Nd} {n c m : Nat} {st : List (Nat × Nat)} (h : c < (ts.getD n nd0).l.length) :
    runS ts ((n, c) :: st) m = if (ts.getD n nd0).l.getD c 0 = (m : Int) ∧ m < ts.length then runS ts ((m, 0) :: (n, c + 1) :: st) (m + 1) else none := by
  have hd := drop_getD h
  by_cases hc : (ts.getD n nd0).l.getD c 0 = (m : Int) ∧ m < ts.length
  · rw [if_pos hc]
    simp only [runS, hd, walkC, if_pos hc, List.drop_zero]
    rw [← Wt_eq hc.2]
    cases Wt ts m <;> rfl
  · rw [if_neg hc]
    simp only [runS, hd, walkC, if_neg hc]
    rfl

def pairs (fs : List (Nat × Nat)) : List Value := fs.flatMap fun p => [.int .i64 (p.1 : Nat), .int .i64 (p.2 : Nat)]
theorem pairs_len (fs : List (Nat × Nat)) : (pairs fs).length = fs.length * 2 := by
  unfold pairs
  induction fs with
  | nil => rfl
  | cons p fs ih => rw [List.flatMap_cons, List.length_append, ih, List.length_cons]; simp; omega
theorem pairs_app (fs : List (Nat × Nat)) (n c : Nat) : pairs (fs ++ [(n, c)]) = pairs fs ++ [.int .i64 (n : Nat), .int .i64 (c : Nat)] := by
  simp [pairs]
theorem top_at {w : World} {B : Nat} {e : TypeId} {v : Value} {fs : List (Nat × Nat)} {n c : Nat} (h : w.ownsRow B e 2 v (fs.length + 1) (pairs (fs ++ [(n, c)]))) :
    ∃ g cap, v = .slice (some ⟨g, 0, none⟩) (fs.length + 1) cap ∧ B ≤ g ∧ fs.length + 1 ≤ cap ∧ cap ≤ maxLen ∧ w.cell? ⟨g, fs.length * 2, none⟩ = some (.int .i64 (n : Nat)) ∧
      w.cell? ⟨g, fs.length * 2 + 1, none⟩ = some (.int .i64 (c : Nat)) ∧ w.frozen? ⟨g, fs.length * 2 + 1, none⟩ = false ∧
      w.ownsRow B e 2 (.slice (some ⟨g, 0, none⟩) fs.length cap) fs.length (pairs fs) ∧
      ∀ c' : Nat, (w.setCell ⟨g, fs.length * 2 + 1, none⟩ (.int .i64 (c' : Nat))).ownsRow B e 2 (.slice (some ⟨g, 0, none⟩) (fs.length + 1) cap) (fs.length + 1) (pairs (fs ++ [(n, c')])) := by
  obtain ⟨h1, h2⟩ := h
  rcases h2 with ⟨-, h2⟩ | ⟨g, cap, cur, hv, hg, hh, hcap, hm, hsz, hx⟩
  · omega
  · rw [pairs_app] at hx
    have hp := pairs_len fs
    have hi : ∀ i, i < 2 → cur[fs.length * 2 + i]? = ([.int .i64 (n : Nat), .int .i64 (c : Nat)] : List Value)[i]? := by
      intro i hi
      have e := congrArg (fun l => l[fs.length * 2 + i]?) hx
      simp only [List.getElem?_take] at e
      rw [if_pos (by omega), List.getElem?_append_right (by omega), hp] at e
      simpa using e
    refine ⟨g, cap, hv, hg, hcap, hm, ?_, ?_, ?_, ⟨hp, Or.inr ⟨g, cap, cur, rfl, hg, hh, by omega, hm, hsz, ?_⟩⟩, fun c' => ⟨by rw [pairs_len, List.length_append]; rfl, Or.inr ⟨g, cap, cur.setIfInBounds (fs.length * 2 + 1) (.int .i64 (c' : Nat)), rfl, hg, ?_, hcap, hm, by rw [Array.size_setIfInBounds]; exact hsz, ?_⟩⟩⟩
    · simp only [World.cell?, hh]; simpa using hi 0 (by omega)
    · simp only [World.cell?, hh]; simpa using hi 1 (by omega)
    · simp [World.frozen?, hh]
    · have e := congrArg (List.take (fs.length * 2)) hx
      rw [List.take_take, Nat.min_eq_left (by omega), ← hp, List.take_left] at e
      rw [← hp]; exact e
    · simp [World.setCell, Array.getElem?_modify, hh]
    · rw [Array.toList_setIfInBounds, List.take_set, hx, List.set_append_right _ _ (by omega), hp, pairs_app]
      congr 1
      rw [show fs.length * 2 + 1 - fs.length * 2 = 1 by omega]; rfl
def sliceLen : Value → Nat
  | .slice _ n _ => n
  | _ => 0
theorem Tryz.infoOpen : (Tryz.prog.info? 154).map (fun i => (i.zero, i.size, i.bytes)) = some (some (.agg #[.int .i64 0, .int .i64 0]), 2, 16) := by kernel_rfl

set_option maxRecDepth 100000 in
set_option maxHeartbeats 8000000 in
theorem met_any (ts : List Nd) (hlen : ts.length ≤ 20000) (h0 : 0 < ts.length) (hok : ∀ x ∈ ts, NdOk x) (a : Option Addr) (cap : Nat) (w : World) (hts : NodesAt w a ts) :
    Calls Tryz.prog 88 #[.agg #[.slice a ts.length cap]] w fun e w' => (∃ n : Nat, e = .returned (.tuple #[.int .i64 (n : Nat), .bool (decide (Wt ts 0 = some ts.length))])) ∧ KB F0 w w' := by
  obtain ⟨w0, rfl⟩ : ∃ w0, w0 = w := ⟨_, rfl⟩
  obtain ⟨r, hr⟩ : ∃ r, r = Wt ts 0 := ⟨_, rfl⟩
  rw [← hr]
  obtain ⟨b, off, rfl, -⟩ := hts 0 h0
  have Hr : Hid (r = runS ts [(0, 0)] 1) := Lib.hid (by rw [hr, runS_start h0])
  obtain ⟨N, hN⟩ : ∃ N, N = ts.length := ⟨_, rfl⟩
  rw [← hN] at hlen h0 ⊢
  have HN := Lib.hid hN
  have HTS := Lib.hid (And.intro hts hok)
  clear hr hts hok hN
  go_enter Tryz.func88, Tryz.ntmps88
  go_wp2_with fail
  obtain ⟨B1, hB1⟩ : ∃ B1, B1 = (w0.alloc (.cells #[.slice (some ⟨b, off, none⟩) N cap] 24)) := ⟨_, rfl⟩
  rw [← hB1]
  have k1 : KB F0 w0 B1 := by rw [hB1]; exact (KB.refl _ _).alloc _
  have bt : B1.cell? ⟨w0.heap.size, 0, none⟩ = some (.slice (some ⟨b, off, none⟩) N cap) := by rw [hB1]; exact new_cell _ _ _ 0
  have hs1 : B1.heap.size = w0.heap.size + 1 := by rw [hB1]; simp
  rw [← hs1]
  have hown0 : (B1.alloc (.cells #[.int .i64 0, .int .i64 0] 154)).ownsRow B1.heap.size 154 2 (.slice (some ⟨B1.heap.size, 0, none⟩) 1 1) 1 (pairs [(0, 0)]) :=
    ⟨rfl, Or.inr ⟨B1.heap.size, 1, _, rfl, Nat.le_refl _, alloc_new _ _, Nat.le_refl _, by decide, rfl, rfl⟩⟩
  have H1 := Lib.hid (And.intro k1 (And.intro bt (HTS.out.1.kbF k1)))
  have Hown0 := Lib.hid hown0
  clear hB1 k1 bt hs1 hown0
  go_loopw [4, 5] (fun v mv wr => ∃ (fs : List (Nat × Nat)) (m : Nat), fs.length ≤ m ∧ m ≤ N ∧ mv = .int .i64 m ∧ wr.ownsRow B1.heap.size 154 2 v fs.length (pairs fs) ∧ Hid (∀ p ∈ fs, p.1 < N ∧ p.2 ≤ (ts.getD p.1 nd0).l.length) ∧ Hid (r = runS ts fs.reverse m) ∧ KB F0 B1 wr) (fun v mv _ => 2 * (N - (intOf mv).toNat) + sliceLen v)
  case atStart => exact ⟨[(0, 0)], 1, Nat.le_refl _, by omega, rfl, Hown0.out, Lib.hid (by intro p hp; simp at hp; subst hp; exact ⟨h0, Nat.zero_le _⟩), Hr, (KB.refl _ _).alloc _⟩
  case round =>
    obtain ⟨fs, m, hfm, hmN, rfl, hown, hfs, hw, hkb⟩ := hrel
    have hbt := hkb.cell (p := ⟨w0.heap.size, 0, none⟩) (fun x => x) H1.out.2.1
    rcases List.eq_nil_or_concat fs with rfl | ⟨fs0, ⟨p, c⟩, hfe⟩
    · obtain ⟨va, vcap, rfl, -, -, -, -⟩ := own_shape (n := 0) hown
      have hr2 : Hid (r = some m) := hw
      have hkb' := Lib.hid hkb
      clear hown hfs hw hkb
      go_wp2_with fail
      refine wp_region_rv 8 GQ (kindV []) (by kernel_rfl) (by kernel_rfl) GQ.trans GQ.refl (GQ.start _) (kindV_mono _) ?_
      simp only [List.take_succ_cons, List.take_zero, List.drop_succ_cons, List.drop_zero]
      iterate 8 (refine rv_det (by kernel_rfl) rfl (by intro w hG hH; obtain ⟨n, rfl⟩ := hG; go_simp; first | done | with_reducible rfl) ?_; simp only [Act.put, List.setIfInBounds_toArray, List.set_cons_zero, List.set_cons_succ])
      refine rv_nil (fun w hG hH => ?_)
      obtain ⟨n, rfl⟩ := hG
      clear hH
      go_wp2
      go_ret2
      refine ⟨⟨m, ?_⟩, ?_⟩
      · rw [hr2.out]
        refine ret_eq (tup2 rfl ?_)
        by_cases h : m = N
        · simp [h]
        · have h' : ¬ ((m : Int) = (N : Int)) := by omega
          simp [h, h']
      · exact H1.out.1.trans (hkb'.out.drewN _)
    · rw [List.concat_eq_append] at hfe
      subst hfe
      rw [List.length_append, List.length_singleton] at hown hfm
      obtain ⟨g, scap, rfl, hg, hsc, hscm, cn, cc, fz, hpop, hset⟩ := top_at hown
      have hnc := hfs.out (p, c) (by simp)
      have hn : p < N := hnc.1
      have hcM : c ≤ (ts.getD p nd0).l.length := hnc.2
      have hiN : (p : Int) < (N : Int) := by omega
      obtain ⟨nb, no, e, hnd⟩ := H1.out.2.2 p (by rw [← HN.out]; exact hn)
      simp only [Option.some.injEq, Addr.mk.injEq, and_true] at e
      obtain ⟨rfl, rfl⟩ := e
      obtain ⟨la, lc, hl4, hints, hlc, hlm⟩ := (hnd.kbF hkb).l
      have hxl := (HTS.out.2 _ (getD_memN (ts := ts) (k := p) (by rw [← HN.out]; exact hn))).l
      rw [List.reverse_append, List.reverse_singleton, List.singleton_append] at hw
      have hpu : ∀ h : c < (ts.getD p nd0).l.length, _ := fun h => runS_push (m := m) (st := fs0.reverse) h
      have hpo := runS_pop (ts := ts) (n := p) (c := c) (m := m) (st := fs0.reverse)
      obtain ⟨L, hL⟩ : ∃ L, L = (ts.getD p nd0).l := ⟨_, rfl⟩
      rw [← hL] at hl4 hints hlc hxl hpu hpo hcM
      obtain ⟨M, hM⟩ : ∃ M, M = L.length := ⟨_, rfl⟩
      rw [← hM] at hl4 hlc hpu hpo hcM
      obtain ⟨K, hK⟩ : ∃ K, K = fs0.length := ⟨_, rfl⟩
      rw [← hK] at hown hfm hsc cn cc fz hpop hset ⊢
      rw [← HN.out] at hpu
      unfold maxLen at hscm hlm
      have HK := Lib.hid (And.intro hkb (And.intro hpop (And.intro hset (And.intro hints (And.intro hxl hfs)))))
      have HM := Lib.hid hM
      have HKe := Lib.hid hK
      have HL := Lib.hid hL
      have Hpu := Lib.hid hpu
      have Hpo := Lib.hid hpo
      have hKs : K ≤ scap := by omega
      clear hown hnc hnd hkb hpop hset hints hxl hfs hM hK hL hpu hpo
      by_cases hcm : c = M
      · subst hcm
        have hr2 : Hid (r = runS ts fs0.reverse m) := Lib.hid (by rw [hw.out]; exact Hpo.out (Nat.le_refl _))
        clear hw fz
        go_wp2_with fail
        refine wp_region_rv 10 GQ (kindV []) (by kernel_rfl) (by kernel_rfl) GQ.trans GQ.refl (GQ.start _) (kindV_mono _) ?_
        simp only [List.take_succ_cons, List.take_zero, List.drop_succ_cons, List.drop_zero]
        iterate 10 (refine rv_det (by kernel_rfl) rfl (by intro w hG hH; obtain ⟨n, rfl⟩ := hG; go_simp; first | done | with_reducible rfl) ?_; simp only [Act.put, List.setIfInBounds_toArray, List.set_cons_zero, List.set_cons_succ])
        refine rv_nil (fun w hG hH => ?_)
        obtain ⟨n, rfl⟩ := hG
        clear hH
        replace HK := HK
        have hkb' := Lib.hid (HK.out.1.drewN n)
        have hpop' := Lib.hid (own_drewN HK.out.2.1 n)
        clear hbt cn hl4
        go_wp2
        go_roundw
        case rel =>
          refine ⟨fs0, m, by rw [← HKe.out]; omega, by omega, rfl, ?_, Lib.hid (fun q hq => HK.out.2.2.2.2.2.out q (List.mem_append_left _ hq)), hr2, hkb'.out⟩
          rw [← HKe.out]; exact hpop'.out
        case measure => simp [intOf, sliceLen]
      · have hlt : c < M := by omega
        obtain ⟨lb, lo, rfl, hcl⟩ := HK.out.2.2.2.1 c (by rw [← HM.out]; exact hlt)
        have hrg := HK.out.2.2.2.2.1 _ (getD_memI (l := L) (k := c) (by rw [← HM.out]; exact hlt))
        have hpu := Hpu.out hlt
        generalize L.getD c 0 = ch at hcl hrg hpu
        rw [hpu] at hw
        have hneq : ¬ c = M := hcm
        by_cases hok : ch = (m : Int) ∧ m < N
        · obtain ⟨rfl, hmN2⟩ := hok
          have hr2 : Hid (r = runS ts ((m, 0) :: (p, c + 1) :: fs0.reverse) (m + 1)) := Lib.hid (by rw [hw.out, if_pos ⟨rfl, hmN2⟩])
          clear hw hpu
          go_wp2_with fail
          refine wp_region_rv 10 GQ (kindV []) (by kernel_rfl) (by kernel_rfl) GQ.trans GQ.refl (GQ.start _) (kindV_mono _) ?_
          simp only [List.take_succ_cons, List.take_zero, List.drop_succ_cons, List.drop_zero]
          iterate 10 (refine rv_det (by kernel_rfl) rfl (by intro w hG hH; obtain ⟨n, rfl⟩ := hG; go_simp; first | done | with_reducible rfl) ?_; simp only [Act.put, List.setIfInBounds_toArray, List.set_cons_zero, List.set_cons_succ])
          refine rv_nil (fun w hG hH => ?_)
          obtain ⟨n, rfl⟩ := hG
          clear hH
          have HS := Lib.hid (own_drewN (HK.out.2.2.1 (c + 1)) n)
          have Hkb := Lib.hid ((HK.out.1.drewN n).setCell (p := ⟨g, K * 2 + 1, none⟩) (fun h => by have : g < B1.heap.size := h; omega) (.int .i64 ((c + 1 : Nat) : Int)))
          go_wp2_with (at_builtin; refine Stopped.out ?_)
          refine ⟨?_⟩
          refine appRow 155 154 B1.heap.size [.int .i64 (m : Nat), .int .i64 0] Tryz.infoOpen Tryz.underlying155 rfl (by decide) (HS.out.alloc _) rfl rfl rfl rfl (by first | exact alloc_new _ _ | (have e9 := alloc_new ((wr.drewN n).setCell ⟨g, K * 2 + 1, none⟩ (.int .i64 ((c + 1 : Nat) : Int))) (.cells #[.int .i64 (m : Nat), .int .i64 0] 154); simpa [World.setCell] using e9)) rfl
            (by intro u hu; simp at hu; rcases hu with rfl | rfl <;> rfl) (by unfold maxLen; omega) (by omega) ((Hkb.out.alloc _).size) ?_
          intro v' w' hown' hgr
          obtain ⟨a', cap', rfl, -, -, -, -⟩ := own_shape hown'
          have hk' := (Hkb.out.alloc _).grown hgr (own_ge (HS.out.alloc (.cells #[] 154)) (Nat.le_refl _))
          have HK' := Lib.hid (And.intro hown' hk')
          clear hown' hgr hk' hbt cn cc fz hl4 hcl
          go_wp2
          go_roundw
          case rel =>
            refine ⟨fs0 ++ [(p, c + 1), (m, 0)], m + 1, ?_, by omega, by go_num, ?_, Lib.hid (fun q hq => ?_), ?_, HK'.out.2⟩
            · rw [List.length_append, ← HKe.out]; simp; omega
            · have e1 : (fs0 ++ [(p, c + 1), (m, 0)]).length = K + 1 + 1 := by rw [List.length_append, ← HKe.out]; rfl
              have e2 : pairs (fs0 ++ [(p, c + 1), (m, 0)]) = pairs (fs0 ++ [(p, c + 1)]) ++ [.int .i64 (m : Nat), .int .i64 0] := by simp [pairs]
              rw [e1, e2]
              exact HK'.out.1
            · rcases List.mem_append.1 hq with hq | hq
              · exact HK.out.2.2.2.2.2.out q (List.mem_append_left _ hq)
              · simp at hq
                rcases hq with rfl | rfl
                · refine ⟨hn, ?_⟩
                  show c + 1 ≤ (ts.getD p nd0).l.length
                  rw [← HL.out, ← HM.out]; omega
                · exact ⟨hmN2, Nat.zero_le _⟩
            · rw [List.reverse_append]
              exact hr2
          case measure => simp [intOf, sliceLen]; omega
        · have hr2 : Hid (r = none) := Lib.hid (by rw [hw.out, if_neg hok])
          clear hw hpu
          by_cases hcm2 : ch = (m : Int)
          · obtain rfl : N = m := by have : ¬ m < N := fun h => hok ⟨hcm2, h⟩; omega
            subst hcm2
            clear hok hrg
            go_wp2_with fail
            refine wp_region_rv 10 GQ (kindV []) (by kernel_rfl) (by kernel_rfl) GQ.trans GQ.refl (GQ.start _) (kindV_mono _) ?_
            simp only [List.take_succ_cons, List.take_zero, List.drop_succ_cons, List.drop_zero]
            iterate 10 (refine rv_det (by kernel_rfl) rfl (by intro w hG hH; obtain ⟨n, rfl⟩ := hG; go_simp; first | done | with_reducible rfl) ?_; simp only [Act.put, List.setIfInBounds_toArray, List.set_cons_zero, List.set_cons_succ])
            refine rv_nil (fun w hG hH => ?_)
            obtain ⟨n, rfl⟩ := hG
            clear hH
            have hkb' := Lib.hid (HK.out.1.drewN n)
            go_wp2
            go_ret2
            exact ⟨⟨p, by rw [hr2.out]; rfl⟩, H1.out.1.trans hkb'.out⟩
          · have d1 : (ch != (m : Int)) = true := by simpa using hcm2
            have d2 : (ch == (m : Int)) = false := by simpa using hcm2
            clear hok
            go_wp2_with fail
            refine wp_region_rv 10 GQ (kindV []) (by kernel_rfl) (by kernel_rfl) GQ.trans GQ.refl (GQ.start _) (kindV_mono _) ?_
            simp only [List.take_succ_cons, List.take_zero, List.drop_succ_cons, List.drop_zero]
            iterate 10 (refine rv_det (by kernel_rfl) rfl (by intro w hG hH; obtain ⟨n, rfl⟩ := hG; go_simp; first | done | with_reducible rfl) ?_; simp only [Act.put, List.setIfInBounds_toArray, List.set_cons_zero, List.set_cons_succ])
            refine rv_nil (fun w hG hH => ?_)
            obtain ⟨n, rfl⟩ := hG
            clear hH
            have hkb' := Lib.hid (HK.out.1.drewN n)
            go_wp2
            go_ret2
            exact ⟨⟨p, by rw [hr2.out]; rfl⟩, H1.out.1.trans hkb'.out⟩
end Go.Proofs.YtoophdcagpfmpaaGreatDoor

/- tree.Up. -/
import Derived.Test.YtjefoojkgocinaaDoorTrSame
namespace Go.Proofs.YtjefoojkgocinaaDoor
open Go.RowKit

theorem ints_set (l : List Int) (i : Nat) (v : Int) : (ints l).set i (.int .i64 v) = ints (l.set i v) := by
  unfold ints
  rw [List.map_set]
theorem getD_setI {d : List Int} {i j : Nat} {v : Int} (hi : i < d.length) : (d.set i v).getD j 0 = if j = i then v else d.getD j 0 := by
  simp only [List.getD_eq_getElem?_getD, List.getElem?_set]
  by_cases h : i = j
  · subst h; simp [hi]
  · rw [if_neg h, if_neg (fun e => h e.symm)]
/-- A node's number at its children. -/
def upC (n : Nat) : List Int → List Int → List Int
  | [], d => d
  | c :: cs, d => upC n cs (d.set c.toNat (n : Int))
def upK (ts : List Nd) : Nat → List Int
  | 0 => (List.replicate ts.length 0).set 0 (-1)
  | k + 1 => upC k (ts.getD k nd0).l (upK ts k)
/-- Each node's parent; the root's is -1. -/
def upL (ts : List Nd) : List Int := upK ts ts.length
theorem upC_len (n : Nat) (l : List Int) : ∀ d, (upC n l d).length = d.length := by
  induction l with
  | nil => intro d; rfl
  | cons c cs ih => intro d; rw [upC, ih, List.length_set]
theorem upK_len (ts : List Nd) (k : Nat) : (upK ts k).length = ts.length := by
  induction k with
  | zero => simp [upK]
  | succ k ih => rw [upK, upC_len, ih]
theorem upC_app (n : Nat) (l : List Int) (c : Int) : ∀ d, upC n (l ++ [c]) d = (upC n l d).set c.toNat (n : Int) := by
  induction l with
  | nil => intro d; rfl
  | cons a cs ih => intro d; exact ih _
theorem upC_get (n : Nat) (l : List Int) : ∀ d, (∀ c ∈ l, 0 ≤ c ∧ c < (d.length : Int)) → ∀ j : Nat, (upC n l d).getD j 0 = if (j : Int) ∈ l then (n : Int) else d.getD j 0 := by
  induction l with
  | nil => intro d _ j; simp [upC]
  | cons c cs ih =>
    intro d h j
    have hc := h c List.mem_cons_self
    rw [upC, ih _ (fun x hx => by rw [List.length_set]; exact h x (List.mem_cons_of_mem _ hx)), getD_setI (by omega)]
    by_cases hj : (j : Int) ∈ cs
    · rw [if_pos hj, if_pos (List.mem_cons_of_mem _ hj)]
    · rw [if_neg hj]
      by_cases hjc : (j : Int) = c
      · rw [if_pos (by omega), if_pos (by rw [hjc]; exact List.mem_cons_self)]
      · rw [if_neg (by omega), if_neg (fun hm => by rcases List.mem_cons.1 hm with e | e; exact hjc e; exact hj e)]
theorem up_spec {ts : List Nd} (hg : Good ts) : (upL ts).getD 0 0 = -1 ∧ ∀ p, p < ts.length → ∀ c : Nat, (c : Int) ∈ kids ts p → (upL ts).getD c 0 = (p : Int) := by
  have hd := good_down hg
  have inv : ∀ k, k ≤ ts.length → (upK ts k).getD 0 0 = -1 ∧ ∀ p, p < k → ∀ c : Nat, (c : Int) ∈ kids ts p → (upK ts k).getD c 0 = (p : Int) := by
    intro k
    induction k with
    | zero =>
      intro _
      refine ⟨?_, fun p hp => by omega⟩
      rw [upK, getD_setI (by simp; exact hg.1), if_pos rfl]
    | succ k ih =>
      intro hk
      obtain ⟨h0, h1⟩ := ih (by omega)
      have hget := upC_get k (kids ts k) (upK ts k) (fun c hc => by rw [upK_len]; have := hd k (by omega) c hc; omega)
      refine ⟨?_, ?_⟩
      · rw [upK, hget, if_neg (fun hm => by have := hd k (by omega) _ hm; omega), h0]
      · intro p hp c hc
        rw [upK, hget]
        rcases Nat.lt_or_eq_of_le (Nat.lt_succ_iff.1 hp) with hp | rfl
        · rw [if_neg (fun hm => good_one hg hp (by omega) hc hm), h1 p hp c hc]
        · rw [if_pos hc]
  exact inv ts.length (Nat.le_refl _)

set_option maxRecDepth 100000 in
set_option maxHeartbeats 8000000 in
theorem tup_any (ts : List Nd) (hm : mayN ts = true) (hok : ∀ x ∈ ts, NdOk x) (a : Option Addr) (cap : Nat) (w : World) (hts : NodesAt w a ts) (hT : Tab w) :
    Calls Tryd.prog 26 #[.agg #[.slice a ts.length cap]] w fun e w' => ∃ v, e = .returned (.tuple #[v, .int .i64 0]) ∧ w'.ownsRow w.heap.size 3 1 v ts.length (ints (upL ts)) ∧ KB F0 w w' := by
  obtain ⟨w0, rfl⟩ : ∃ w0, w0 = w := ⟨_, rfl⟩
  obtain ⟨hgd, hlen, -, -⟩ := may_parts hm
  have hdn := good_down hgd
  have h0 := hgd.1
  obtain ⟨b, off, rfl, -⟩ := hts 0 h0
  have MY := Lib.hid (fun (W : World) (h : KB F0 w0 W) => hm ▸ may_any ts (by omega) hok (some ⟨b, off, none⟩) cap W (hts.kbF h) (hT.kb h))
  obtain ⟨N, hN⟩ : ∃ N, N = ts.length := ⟨_, rfl⟩
  rw [← hN] at hlen h0 MY ⊢
  have HN := Lib.hid hN
  have HTS := Lib.hid (And.intro hts hdn)
  obtain ⟨R, hR⟩ : ∃ R, R = upL ts := ⟨_, rfl⟩
  rw [← hR]
  have HR := Lib.hid hR
  obtain ⟨W1, hW1⟩ : ∃ W1, W1 = w0.alloc (.cells #[.slice (some ⟨b, off, none⟩) N cap] 31) := ⟨_, rfl⟩
  have k1 : KB F0 w0 W1 := by rw [hW1]; exact (KB.refl _ _).alloc _
  have h0h : W1.heap[w0.heap.size]? = some (.cells #[.slice (some ⟨b, off, none⟩) N cap] 31 (0, 0)) := by rw [hW1]; exact alloc_new _ _
  have H1 := Lib.hid (And.intro k1 h0h)
  have HW1 := Lib.hid hW1
  have b0 : W1.cell? ⟨w0.heap.size, 0, none⟩ = some (.slice (some ⟨b, off, none⟩) N cap) := blk_cell h0h 0
  rw [hW1] at b0
  clear hts hdn hN hR hm hgd hok hT hW1 k1 h0h
  go_enter Tryd.func26, Tryd.ntmps26
  obtain ⟨i, hi, hz0, hz1, hz2⟩ := info_parts Tryd.infoInt
  go_wp2_with fail
  rw [← HW1.out]
  refine (MY.out W1 H1.out.1).mono ?_
  rintro e W2 ⟨rfl, k2⟩
  have h0h := k2.heap (fun x => x) H1.out.2
  have b0 : W2.cell? ⟨w0.heap.size, 0, none⟩ = some (.slice (some ⟨b, off, none⟩) N cap) := blk_cell h0h 0
  have K2 := Lib.hid (And.intro (H1.out.1.trans k2) h0h)
  have hs2 : w0.heap.size ≤ W2.heap.size := K2.out.1.size
  clear k2 h0h
  go_wp2_with (at_make; refine Stopped.out ?_)
  refine ⟨?_⟩
  refine wpList_make_full _ rfl _ _ 23 rfl w0.heap.size 3 i _ 1 Tryd.underlying23 hi hz0 hz1 .i64 .i64 _ _ N rfl rfl rfl rfl (by rw [hz2]; omega) (by unfold maxLen; omega) (by omega) ?_
  intro W3 hown hgr
  obtain ⟨g, hg⟩ : ∃ g, g = W2.heap.size := ⟨_, rfl⟩
  rw [← hg] at hown ⊢
  have k3 : KB F0 w0 W3 := K2.out.1.grown hgr (by intro k h; cases h)
  have b0 : W3.cell? ⟨w0.heap.size, 0, none⟩ = some (.slice (some ⟨b, off, none⟩) N cap) := by
    rw [World.cell?_of_block (hgr.block w0.heap.size (heap_lt K2.out.2) (by simp))]; exact b0
  have hg' : w0.heap.size < g := by rw [hg]; exact heap_lt K2.out.2
  have e : (madeCells (Value.int IntKind.i64 0).cells (N * 1)).toList = ints (List.replicate N 0) := by
    rw [Nat.mul_one]
    exact (toList_madeCells_one _ _).trans (by simp [ints])
  rw [e] at hown
  obtain ⟨g1, cap1, e1, hg1, hc1, hfz, hset⟩ := own_set hown (i := 0) h0
  simp only [Value.slice.injEq, Option.some.injEq, Addr.mk.injEq, and_true, true_and] at e1
  obtain ⟨rfl, rfl⟩ := e1
  rw [ints_get (by simpa using h0)] at hc1
  have hset1 := hset (.int .i64 (-1))
  rw [ints_set, show (List.replicate N (0 : Int)).set 0 (-1) = upK ts 0 by rw [upK, HN.out]] at hset1
  have k4 := k3.setCell (p := ⟨g, 0, none⟩) (fun h => by have : g < w0.heap.size := h; omega) (.int .i64 (-1))
  have b0' : (W3.setCell ⟨g, 0, none⟩ (.int .i64 (-1))).cell? ⟨w0.heap.size, 0, none⟩ = some (.slice (some ⟨b, off, none⟩) N cap) := by
    rw [World.cell?_of_block (Below.heap_setCell W3 ⟨g, 0, none⟩ _ w0.heap.size (by show w0.heap.size ≠ g; omega))]; exact b0
  have H3 := Lib.hid (And.intro k4 hset1)
  clear hg hown hset hset1 hgr k3 k4 hi hz0 hz1 hz2 e
  go_wp2_with fail
  go_loopw [21] (fun kv wr => ∃ k : Nat, k ≤ N ∧ kv = .int .i64 k ∧ wr.ownsRow w0.heap.size 3 1 (.slice (some ⟨g, 0, none⟩) N N) N (ints (upK ts k)) ∧ KB F0 w0 wr) (fun kv _ => N - (intOf kv).toNat)
  case atStart => exact ⟨0, by omega, rfl, H3.out.2, H3.out.1⟩
  case round =>
    obtain ⟨k, hk, rfl, hown, hkb⟩ := hrel
    by_cases hlt : k < N
    · obtain ⟨nb, no, e, hnd0⟩ := HTS.out.1 k (by rw [← HN.out]; exact hlt)
      simp only [Option.some.injEq, Addr.mk.injEq, and_true] at e
      obtain ⟨rfl, rfl⟩ := e
      have hd := HTS.out.2 k (by rw [← HN.out]; exact hlt)
      have hstep : Hid (upK ts (k + 1) = upC k (ts.getD k nd0).l (upK ts k)) := Lib.hid rfl
      have hln := upK_len ts k
      generalize ts.getD k nd0 = x at hnd0 hd hstep
      have hnd := hnd0.kbF hkb
      obtain ⟨D, hD⟩ : ∃ D, D = upK ts k := ⟨_, rfl⟩
      rw [← hD] at hown hstep hln
      rw [← HN.out] at hln hd
      have c0 := hnd.k
      have c1 := hnd.at_
      have c2 := hnd.n
      have c3 := hnd.s
      obtain ⟨la, lc, hl4, hints, hlc, hlm⟩ := hnd0.l
      have hl4 := hkb.cell (p := ⟨b, off + k * 5 + 4, none⟩) (fun x => x) hl4
      obtain ⟨M, hM⟩ : ∃ M, M = x.l.length := ⟨_, rfl⟩
      rw [← hM] at hl4 hlc
      unfold maxLen at hlm
      have HM := Lib.hid hM
      have HK := Lib.hid (And.intro hown (And.intro hkb (And.intro hints (And.intro hd hln))))
      clear hown hkb hnd hnd0 hints hd hln hM hD
      go_wp2_with fail
      go_loopw [29] (fun jv wr2 => ∃ j : Nat, j ≤ M ∧ jv = .int .i64 j ∧ wr2.ownsRow w0.heap.size 3 1 (.slice (some ⟨g, 0, none⟩) N N) N (ints (upC k (x.l.take j) D)) ∧ KB F0 w0 wr2) (fun jv _ => M - (intOf jv).toNat)
      case atStart =>
        have ka := (KB.refl F0 wr).alloc (.cells #[.int .u8 x.k, .int .i64 x.at_, .int .i64 x.n, .string x.s, .slice la M lc] 25)
        refine ⟨0, by omega, rfl, ?_, HK.out.2.1.trans ka⟩
        exact own_kb HK.out.1 ka (fun _ _ x => x)
      case round =>
        obtain ⟨j, hj, rfl, hown, hkb⟩ := hrel
        have hints := HK.out.2.2.1.kbF hkb
        by_cases hjt : j < M
        · obtain ⟨lb, lo, rfl, hcl⟩ := hints j (by rw [← HM.out]; exact hjt)
          have hmem := getD_memI (l := x.l) (k := j) (by rw [← HM.out]; exact hjt)
          have hrg := HK.out.2.2.2.1 _ hmem
          have htake : Hid (upC k (x.l.take (j + 1)) D = (upC k (x.l.take j) D).set (x.l.getD j 0).toNat (k : Int)) := Lib.hid (by
            rw [List.take_succ_eq_append_getElem (by rw [← HM.out]; exact hjt), upC_app, show x.l.getD j 0 = x.l[j]'(by rw [← HM.out]; exact hjt) by rw [List.getD_eq_getElem?_getD, List.getElem?_eq_getElem (by rw [← HM.out]; exact hjt)]; rfl])
          have hln : (upC k (x.l.take j) D).length = N := by rw [upC_len]; exact HK.out.2.2.2.2
          generalize x.l.getD j 0 = c at hcl hrg htake
          obtain ⟨q, rfl⟩ := Int.eq_ofNat_of_zero_le (show 0 ≤ c by omega)
          rw [Int.toNat_natCast] at htake
          generalize upC k (x.l.take j) D = E at hown htake hln
          obtain ⟨g2, cap2, e2, hg2, hc2, hfz, hset⟩ := own_set hown (i := q) (by omega)
          simp only [Value.slice.injEq, Option.some.injEq, Addr.mk.injEq, and_true, true_and] at e2
          obtain ⟨rfl, rfl⟩ := e2
          rw [ints_get (by omega)] at hc2
          have hset' := hset (.int .i64 (k : Int))
          rw [ints_set, ← htake.out] at hset'
          have HS := Lib.hid hset'
          have Hkb := Lib.hid (hkb.setCell (p := ⟨g, q, none⟩) (fun h => by have : g < w0.heap.size := h; omega) (.int .i64 (k : Int)))
          have hkq : (q : Int) < (N : Int) := by omega
          clear hown hkb hints hset' hset htake hln hmem
          go_wp2
          go_roundw
          case rel => exact ⟨j + 1, by omega, by go_num, HS.out, Hkb.out⟩
          case measure => simp [intOf]; omega
        · obtain rfl : M = j := by omega
          have hr : Hid (upK ts (k + 1) = upC k (x.l.take M) D) := Lib.hid (by rw [hstep.out, List.take_of_length_le (by rw [← HM.out]; exact Nat.le_refl _)])
          have HK2 := Lib.hid (And.intro hown hkb)
          clear hown hkb hints
          go_wp2
          go_roundw
          case rel => exact ⟨k + 1, by omega, by go_num, by rw [hr.out]; exact HK2.out.1, HK2.out.2⟩
          case measure => simp [intOf]; omega
    · obtain rfl : k = N := by omega
      have HF : Hid (wr.ownsRow w0.heap.size 3 1 (.slice (some ⟨g, 0, none⟩) k k) k (ints R) ∧ KB F0 w0 wr) := Lib.hid ⟨by rw [HR.out, upL, ← HN.out]; exact hown, hkb⟩
      clear hown hkb
      go_wp2
      go_ret2
      exact ⟨_, rfl, HF.out.1, HF.out.2⟩
end Go.Proofs.YtjefoojkgocinaaDoor

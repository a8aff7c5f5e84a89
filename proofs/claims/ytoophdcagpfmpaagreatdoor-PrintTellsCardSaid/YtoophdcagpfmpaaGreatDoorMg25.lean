/- The walks of tree.above and tree.deep. tree.Check, tree.May; loanwordref03.Check, May: one code. -/
import Derived.Test.YtoophdcagpfmpaaGreatDoorMg17
import Derived.Test.YtoophdcagpfmpaaGreatDoorTreeU
import Derived.Test.YtoophdcagpfmpaaGreatDoorMg24
import Derived.Test.YtoophdcagpfmpaaGreatDoorMg03
namespace Go.Proofs.YtoophdcagpfmpaaGreatDoor
open Go.RowKit

/-- Numbers as values. -/
def nats (l : List Nat) : List Value := l.map fun x => Value.int .i64 (x : Nat)
theorem nats_get {l : List Nat} {i : Nat} (h : i < l.length) : (nats l)[i]? = some (.int .i64 (l.getD i 0 : Nat)) := by
  unfold nats
  simp [List.getD_eq_getElem?_getD, h]
theorem nats_set (l : List Nat) (i v : Nat) : (nats l).set i (.int .i64 (v : Nat)) = nats (l.set i v) := by
  unfold nats
  rw [List.map_set]
theorem aboveC_app (n : Nat) (l : List Int) (c : Int) : ∀ d, aboveC n (l ++ [c]) d = (aboveC n l d).set c.toNat ((aboveC n l d).getD n 0 + 1) := by
  induction l with
  | nil => intro d; rfl
  | cons a cs ih => intro d; exact ih _
theorem aboveN_le {ts : List Nd} (hd : Down ts) (k : Nat) : k ≤ ts.length → ∀ j, (aboveN ts k).getD j 0 ≤ k := by
  induction k with
  | zero =>
    intro _ j
    simp [aboveN, List.getD_eq_getElem?_getD, List.getElem?_replicate]
    split <;> simp
  | succ k ih =>
    intro hk j
    rw [aboveN, aboveC_get k (kids ts k) (aboveN ts k) (fun c hc => by rw [aboveN_len]; exact hd k (by omega) c hc)]
    have h1 := ih (by omega) k
    have h2 := ih (by omega) j
    split <;> omega

set_option maxRecDepth 100000 in
set_option maxHeartbeats 8000000 in
theorem above_any (ts : List Nd) (hlen : ts.length ≤ 20000) (h0 : 0 < ts.length) (hdn : Down ts) (a : Option Addr) (cap : Nat) (w : World) (hts : NodesAt w a ts) :
    Calls Tryz.prog 60 #[.agg #[.slice a ts.length cap]] w fun e w' => ∃ v, e = .returned v ∧ w'.ownsRow w.heap.size 3 1 v ts.length (nats (aboveL ts)) ∧ KB F0 w w' := by
  obtain ⟨w0, rfl⟩ : ∃ w0, w0 = w := ⟨_, rfl⟩
  obtain ⟨b, off, rfl, -⟩ := hts 0 h0
  obtain ⟨N, hN⟩ : ∃ N, N = ts.length := ⟨_, rfl⟩
  rw [← hN] at hlen h0 ⊢
  have HN := Lib.hid hN
  have HTS := Lib.hid (And.intro hts hdn)
  obtain ⟨R, hR⟩ : ∃ R, R = aboveL ts := ⟨_, rfl⟩
  rw [← hR]
  have HR := Lib.hid hR
  clear hts hdn hN hR
  go_enter Tryz.func60, Tryz.ntmps60
  obtain ⟨i, hi, hz0, hz1, hz2⟩ := info_parts Tryz.infoInt
  go_wp2_with (at_make; refine Stopped.out ?_)
  refine ⟨?_⟩
  refine wpList_make_full _ rfl _ _ 42 rfl (w0.heap.size + 1) 3 i _ 1 Tryz.underlying42 hi hz0 hz1 .i64 .i64 _ _ N rfl rfl rfl rfl (by rw [hz2]; omega) (by unfold maxLen; omega) (by simp) ?_
  intro W1 hown hgr
  obtain ⟨g, hg⟩ : ∃ g, g = (w0.alloc (.cells #[.slice (some ⟨b, off, none⟩) N cap] 24)).heap.size := ⟨_, rfl⟩
  rw [← hg] at hown ⊢
  have k1 : KB F0 w0 W1 := ((KB.refl _ _).alloc _).grown hgr (by intro k h; cases h)
  have bt : W1.cell? ⟨w0.heap.size, 0, none⟩ = some (.slice (some ⟨b, off, none⟩) N cap) := by
    rw [World.cell?_of_block (hgr.block w0.heap.size (by simp) (by simp))]; exact new_cell _ _ _ 0
  have hg' : w0.heap.size ≤ g := by rw [hg]; simp
  have hown' : W1.ownsRow w0.heap.size 3 1 (.slice (some ⟨g, 0, none⟩) N N) N (nats (aboveN ts 0)) := by
    have e : (madeCells (Value.int IntKind.i64 0).cells (N * 1)).toList = nats (aboveN ts 0) := by
      rw [aboveN, ← HN.out, Nat.mul_one]
      exact (toList_madeCells_one _ _).trans (by simp [nats])
    rw [← e]
    exact own_base hown (by omega)
  have H1 := Lib.hid (And.intro k1 hown')
  clear hg hown hown' hgr k1 hi hz0 hz1 hz2
  go_wp2_with fail
  go_loopw [15] (fun kv wr => ∃ k : Nat, k ≤ N ∧ kv = .int .i64 k ∧ wr.ownsRow w0.heap.size 3 1 (.slice (some ⟨g, 0, none⟩) N N) N (nats (aboveN ts k)) ∧ KB F0 w0 wr) (fun kv _ => N - (intOf kv).toNat)
  case atStart => exact ⟨0, by omega, rfl, H1.out.2, H1.out.1⟩
  case round =>
    obtain ⟨k, hk, rfl, hown, hkb⟩ := hrel
    by_cases hlt : k < N
    · obtain ⟨nb, no, e, hnd0⟩ := HTS.out.1 k (by rw [← HN.out]; exact hlt)
      simp only [Option.some.injEq, Addr.mk.injEq, and_true] at e
      obtain ⟨rfl, rfl⟩ := e
      have hd := HTS.out.2 k (by rw [← HN.out]; exact hlt)
      have hle := aboveN_le HTS.out.2 k (by rw [← HN.out]; omega)
      have hstep : Hid (aboveN ts (k + 1) = aboveC k (ts.getD k nd0).l (aboveN ts k)) := Lib.hid rfl
      have hln := aboveN_len ts k
      generalize ts.getD k nd0 = x at hnd0 hd hstep
      have hnd := hnd0.kbF hkb
      obtain ⟨D, hD⟩ : ∃ D, D = aboveN ts k := ⟨_, rfl⟩
      rw [← hD] at hown hle hstep hln
      rw [← HN.out] at hln hd
      have c0 := hnd.k
      have c1 := hnd.at_
      have c2 := hnd.n
      have c3 := hnd.s
      obtain ⟨la, lc, hl4, hints, hlc, hlm⟩ := hnd0.l
      have hl4 := hkb.cell (p := ⟨b, off + k * 5 + 4, none⟩) (fun x => x) hl4
      obtain ⟨M, hM⟩ : ∃ M, M = x.l.length := ⟨_, rfl⟩
      rw [← hM] at hl4 hlc
      unfold maxLen at hlm
      have HM := Lib.hid hM
      have HK := Lib.hid (And.intro hown (And.intro hkb (And.intro hints (And.intro hd (And.intro hle hln)))))
      clear hown hkb hnd hnd0 hints hd hle hln hM hD
      go_wp2_with fail
      go_loopw [23] (fun jv wr2 => ∃ j : Nat, j ≤ M ∧ jv = .int .i64 j ∧ wr2.ownsRow w0.heap.size 3 1 (.slice (some ⟨g, 0, none⟩) N N) N (nats (aboveC k (x.l.take j) D)) ∧ KB F0 w0 wr2) (fun jv _ => M - (intOf jv).toNat)
      case atStart =>
        have ka := (KB.refl F0 wr).alloc (.cells #[.int .u8 x.k, .int .i64 x.at_, .int .i64 x.n, .string x.s, .slice la M lc] 44)
        refine ⟨0, by omega, rfl, ?_, HK.out.2.1.trans ka⟩
        exact own_kb HK.out.1 ka (fun _ _ x => x)
      case round =>
        obtain ⟨j, hj, rfl, hown, hkb⟩ := hrel
        have hints := HK.out.2.2.1.kbF hkb
        by_cases hjt : j < M
        · obtain ⟨lb, lo, rfl, hcl⟩ := hints j (by rw [← HM.out]; exact hjt)
          have hmem := getD_memI (l := x.l) (k := j) (by rw [← HM.out]; exact hjt)
          have hrg := HK.out.2.2.2.1 _ hmem
          have htake : Hid (aboveC k (x.l.take (j + 1)) D = (aboveC k (x.l.take j) D).set (x.l.getD j 0).toNat ((aboveC k (x.l.take j) D).getD k 0 + 1)) := Lib.hid (by
            rw [List.take_succ_eq_append_getElem (by rw [← HM.out]; exact hjt), aboveC_app, show x.l.getD j 0 = x.l[j]'(by rw [← HM.out]; exact hjt) by rw [List.getD_eq_getElem?_getD, List.getElem?_eq_getElem (by rw [← HM.out]; exact hjt)]; rfl])
          have hdk : (aboveC k (x.l.take j) D).getD k 0 = D.getD k 0 := by
            rw [aboveC_get _ _ _ (fun c hc => by have := HK.out.2.2.2.1 c (List.mem_of_mem_take hc); rw [HK.out.2.2.2.2.2]; exact this), if_neg]
            intro h; have := HK.out.2.2.2.1 _ (List.mem_of_mem_take h); omega
          have hle := HK.out.2.2.2.2.1 k
          have hln : (aboveC k (x.l.take j) D).length = N := by rw [aboveC_len]; exact HK.out.2.2.2.2.2
          generalize x.l.getD j 0 = c at hcl hrg htake
          obtain ⟨q, rfl⟩ := Int.eq_ofNat_of_zero_le (show 0 ≤ c by omega)
          rw [Int.toNat_natCast] at htake
          generalize aboveC k (x.l.take j) D = E at hown htake hdk hln
          rw [hdk] at htake
          obtain ⟨g1, cap1, e1, hg1, hc1, -, -⟩ := own_set hown (i := k) hlt
          simp only [Value.slice.injEq, Option.some.injEq, Addr.mk.injEq, and_true, true_and] at e1
          obtain ⟨rfl, rfl⟩ := e1
          rw [nats_get (by omega), hdk] at hc1
          obtain ⟨g2, cap2, e2, hg2, hc2, hfz, hset⟩ := own_set hown (i := q) (by omega)
          simp only [Value.slice.injEq, Option.some.injEq, Addr.mk.injEq, and_true, true_and] at e2
          obtain ⟨rfl, rfl⟩ := e2
          rw [nats_get (by omega)] at hc2
          have hset' := hset (.int .i64 ((D.getD k 0 + 1 : Nat) : Int))
          rw [nats_set, ← htake.out] at hset'
          have HS := Lib.hid hset'
          have Hkb := Lib.hid (hkb.setCell (p := ⟨g, q, none⟩) (fun h => by have : g < w0.heap.size := h; omega) (.int .i64 ((D.getD k 0 + 1 : Nat) : Int)))
          have hkq : (q : Int) < (N : Int) := by omega
          generalize D.getD k 0 = dk at *
          clear hown hkb hints hset' hset hdk htake hln hmem
          go_wp2
          go_roundw
          case rel => exact ⟨j + 1, by omega, by go_num, by have := HS.out; push_cast at this; exact this, by have := Hkb.out; push_cast at this; exact this⟩
          case measure => simp [intOf]; omega
        · obtain rfl : M = j := by omega
          have hr : Hid (aboveN ts (k + 1) = aboveC k (x.l.take M) D) := Lib.hid (by rw [hstep.out, List.take_of_length_le (by rw [← HM.out]; exact Nat.le_refl _)])
          have HK2 := Lib.hid (And.intro hown hkb)
          clear hown hkb hints
          go_wp2
          go_roundw
          case rel => exact ⟨k + 1, by omega, by go_num, by rw [hr.out]; exact HK2.out.1, HK2.out.2⟩
          case measure => simp [intOf]; omega
    · obtain rfl : k = N := by omega
      go_wp2
      go_ret
      refine ⟨_, rfl, ?_, hkb⟩
      rw [HR.out, aboveL, ← HN.out]
      exact hown
theorem foldl_max (l : List Int) : ∀ a, a ≤ l.foldl max a ∧ (∀ x ∈ l, x ≤ l.foldl max a) ∧ (l.foldl max a = a ∨ l.foldl max a ∈ l) := by
  induction l with
  | nil => intro a; exact ⟨Int.le_refl _, (fun x h => by cases h), .inl rfl⟩
  | cons b l ih =>
    intro a
    obtain ⟨h1, h2, h3⟩ := ih (max a b)
    simp only [List.foldl_cons]
    refine ⟨by omega, fun x hx => ?_, ?_⟩
    · rcases List.mem_cons.1 hx with rfl | hx
      · omega
      · exact h2 x hx
    · rcases h3 with h3 | h3
      · rw [h3]
        by_cases h : a ≤ b
        · right; rw [Int.max_eq_right h]; exact List.mem_cons_self
        · left; omega
      · exact .inr (List.mem_cons_of_mem _ h3)
theorem maxOf_nats {l : List Nat} {D : Nat} (h0 : 0 < l.length) (h1 : ∀ j, j < l.length → l.getD j 0 + 1 ≤ D) (h2 : ∃ j, j < l.length ∧ l.getD j 0 + 1 = D) :
    Lib.maxOf (l.map fun x => ((x : Nat) : Int)) + 1 = (D : Nat) := by
  unfold Lib.maxOf
  obtain ⟨j, hj, hD⟩ := h2
  have hall : ∀ x ∈ l, x + 1 ≤ D := fun x hx => by
    obtain ⟨i, hi, rfl⟩ := List.getElem_of_mem hx
    have := h1 i hi
    rw [List.getD_eq_getElem?_getD, List.getElem?_eq_getElem hi] at this
    exact this
  have hmem : l.getD j 0 ∈ l := by rw [List.getD_eq_getElem?_getD, List.getElem?_eq_getElem hj]; exact List.getElem_mem hj
  obtain ⟨f1, f2, f3⟩ := foldl_max (l.map fun x => ((x : Nat) : Int)) ((l.map fun x => ((x : Nat) : Int)).headD 0)
  have g1 := f2 _ (List.mem_map_of_mem (f := fun x => ((x : Nat) : Int)) hmem)
  have hhead : (l.map fun x => ((x : Nat) : Int)).headD 0 ∈ l.map fun x => ((x : Nat) : Int) := by
    cases l with
    | nil => simp at h0
    | cons a l => simp
  have g2 : (l.map fun x => ((x : Nat) : Int)).foldl max ((l.map fun x => ((x : Nat) : Int)).headD 0) ∈ l.map fun x => ((x : Nat) : Int) := by
    rcases f3 with f3 | f3
    · rw [f3]; exact hhead
    · exact f3
  obtain ⟨x, hx, hxe⟩ := List.mem_map.1 g2
  have := hall x hx
  omega
set_option maxRecDepth 100000 in
theorem deep_any (ts : List Nd) (hlen : ts.length ≤ 20000) (hg : Good ts) (a : Option Addr) (cap : Nat) (w : World) (hts : NodesAt w a ts) :
    Calls Tryz.prog 89 #[.agg #[.slice a ts.length cap]] w fun e w' => e = .returned (.int .i64 (deepN ts : Nat)) ∧ KB F0 w w' := by
  have hd := depths_above hg
  have hmax : (Lib.maxOf ((aboveL ts).map fun x => ((x : Nat) : Int))) + 1 = (deepN ts : Nat) := by
    have hdd := deepN_depths hg hd
    rw [← hd.len] at hdd
    exact maxOf_nats (by rw [hd.len]; exact hg.1) hdd.1 hdd.2
  have ha := Lib.hid (above_any ts hlen hg.1 (good_down hg) a cap)
  have hl := hd.len
  obtain ⟨A, hA⟩ : ∃ A, A = aboveL ts := ⟨_, rfl⟩
  rw [← hA] at hmax ha hl
  have h0 := hg.1
  obtain ⟨D, hD⟩ : ∃ D, D = deepN ts := ⟨_, rfl⟩
  rw [← hD] at hmax ⊢
  have HD := Lib.hid hmax
  have hDb : D ≤ 20000 := by rw [hD]; exact Nat.le_trans (deepF_le _ _ _) hlen
  have HTS := Lib.hid hts
  obtain ⟨N, hN⟩ : ∃ N, N = ts.length := ⟨_, rfl⟩
  rw [← hN] at hlen hl h0 ha ⊢
  clear hmax hD hd hA hN hts hg
  go_enter Tryz.func89, Tryz.ntmps89
  go_wp2_with fail
  refine (ha.out _ (HTS.out.kbF ((KB.refl _ _).alloc _))).mono ?_
  rintro e w' ⟨v, rfl, hown, hk⟩
  have k1 : KB F0 w w' := ((KB.refl _ _).alloc _).trans hk
  obtain ⟨a2, cap2, rfl, -, -, hcells, -⟩ := own_shape hown
  obtain ⟨g, rfl, -, -⟩ := hcells 0 (by omega)
  have hm := Tryz.slices_Max_int g 0 N cap2 (A.map fun x => ((x : Nat) : Int)) w' h0 (by rw [List.length_map, hl]; exact Nat.le_refl _) (by omega) (fun j hj => by
    obtain ⟨g', e, -, hc⟩ := hcells j (by rw [List.length_map, hl] at hj; omega)
    simp only [Option.some.injEq, Addr.mk.injEq, and_true] at e
    subst e
    rw [Nat.zero_add, hc, nats_get (by rw [List.length_map] at hj; exact hj)]
    simp [List.getD_eq_getElem?_getD, show j < A.length by rw [List.length_map] at hj; exact hj])
  rw [List.take_of_length_le (by rw [List.length_map, hl]; exact Nat.le_refl _)] at hm
  have HM := Lib.hid hm
  generalize Lib.maxOf (A.map fun x => ((x : Nat) : Int)) = m at HM HD
  have hmD : m + 1 = (D : Int) := HD.out
  clear hm hcells hown hk ha
  go_wp2_with fail
  refine HM.out.mono ?_
  rintro e w2 ⟨rfl, rfl⟩
  go_wp2
  go_ret
  exact ⟨ret_int (by omega), k1⟩
end Go.Proofs.YtoophdcagpfmpaaGreatDoor

namespace Go.Proofs.YtoophdcagpfmpaaGreatDoor
open Go.RowKit

theorem chk_long {ts : List Nd} (h : 16384 < ts.length) : chk ts = 3 := by unfold chk; rw [if_neg (by omega), if_pos h]
theorem chk_bad {ts : List Nd} (_h0 : 0 < ts.length) (_h : ts.length ≤ 16384) (hb : ¬ (ts.all (asksN ts) = true ∧ Wt ts 0 = some ts.length)) : chk ts = 30 := by
  unfold chk; rw [if_neg (by omega), if_neg (by omega), if_neg hb]
theorem chk_good {ts : List Nd} (_h0 : 0 < ts.length) (_h : ts.length ≤ 16384) (hb : ts.all (asksN ts) = true ∧ Wt ts 0 = some ts.length) : chk ts = if 48 < deepN ts then 4 else 0 := by
  unfold chk; rw [if_neg (by omega), if_neg (by omega), if_pos hb]
theorem chk_le (ts : List Nd) : chk ts ≤ 30 := by unfold chk; split <;> (try split) <;> (try split) <;> (try split) <;> omega

set_option maxRecDepth 100000 in
set_option maxHeartbeats 8000000 in
theorem check_any (ts : List Nd) (hlen : ts.length < 100000000) (hok : ∀ x ∈ ts, NdOk x) (a : Option Addr) (cap : Nat) (w : World) (hts : NodesAt w a ts) (hT : Tab w) :
    Calls Tryz.prog 59 #[.agg #[.slice a ts.length cap]] w fun e w' => (∃ at_ : Int, e = .returned (.tuple #[.int .i64 at_, .int .i64 (chk ts : Nat)])) ∧ KB F0 w w' := by
  obtain ⟨w0, rfl⟩ : ∃ w0, w0 = w := ⟨_, rfl⟩
  by_cases h0 : ts.length = 0
  · have e : chk ts = 30 := by unfold chk; rw [if_pos h0]
    rw [e, h0]
    clear hlen hts hT hok e h0
    go_enter Tryz.func59, Tryz.ntmps59
    go_wp2
    go_ret2
    exact ⟨⟨0, rfl⟩, (KB.refl _ _).alloc _⟩
  · by_cases hlong : 16384 < ts.length
    · rw [chk_long hlong]
      obtain ⟨N, hN⟩ : ∃ N, N = ts.length := ⟨_, rfl⟩
      rw [← hN] at hlong hlen h0 ⊢
      clear hN hts hT hok
      go_enter Tryz.func59, Tryz.ntmps59
      go_wp2
      go_ret2
      exact ⟨⟨16384, rfl⟩, (KB.refl _ _).alloc _⟩
    · have hlen' : ts.length ≤ 20000 := by omega
      have hpos : 0 < ts.length := by omega
      have Ask := Lib.hid (fun (i : Nat) (W : World) (hi : i < ts.length) (h : NodesAt W a ts) (hT : Tab W) => asks_any a ts cap i W hlen' hi h hok hT)
      have Met := Lib.hid (fun (W : World) (h : NodesAt W a ts) => met_any ts hlen' hpos hok a cap W h)
      have Dee := Lib.hid (fun (hg : Good ts) (W : World) (h : NodesAt W a ts) => deep_any ts hlen' hg a cap W h)
      have Cbad := Lib.hid (fun hb => chk_bad hpos (by omega) (ts := ts) hb)
      have Cgood := Lib.hid (fun hb => chk_good hpos (by omega) (ts := ts) hb)
      have Hall : Hid (∀ i, i < ts.length → asksN ts (ts.getD i nd0) = true → True) := Lib.hid (fun _ _ _ => trivial)
      have Hbad : Hid (∀ i, i < ts.length → asksN ts (ts.getD i nd0) = false → ¬ ts.all (asksN ts) = true) := Lib.hid (fun i hi hb hall => by
        rw [List.all_eq_true.1 hall _ (getD_memN hi)] at hb; cases hb)
      have Hgood : Hid ((∀ i, i < ts.length → asksN ts (ts.getD i nd0) = true) → ts.all (asksN ts) = true) := Lib.hid (fun h => by
        rw [List.all_eq_true]
        intro x hx
        obtain ⟨i, hi, rfl⟩ := List.getElem_of_mem hx
        have := h i hi
        rwa [List.getD_eq_getElem?_getD, List.getElem?_eq_getElem hi] at this)
      have HTS := Lib.hid (And.intro hts hT)
      obtain ⟨C, hC⟩ : ∃ C, C = chk ts := ⟨_, rfl⟩
      rw [← hC] at Cbad Cgood ⊢
      obtain ⟨N, hN⟩ : ∃ N, N = ts.length := ⟨_, rfl⟩
      rw [← hN] at hlong hlen h0 hpos hlen' ⊢ Ask Met Dee Hbad Hgood Cbad Cgood
      have HN := Lib.hid hN
      have hz : ((N : Int) == 0) = false := by simpa using h0
      have hz2 : decide ((16384 : Int) < (N : Int)) = false := decide_eq_false (by omega)
      clear hN hts hT hok hC Hall
      go_enter Tryz.func59, Tryz.ntmps59
      go_wp2_with fail
      obtain ⟨B1, hB1⟩ : ∃ B1, B1 = (w0.alloc (.cells #[.slice a N cap] 24)) := ⟨_, rfl⟩
      rw [← hB1]
      have k1 : KB F0 w0 B1 := by rw [hB1]; exact (KB.refl _ _).alloc _
      have bt : B1.cell? ⟨w0.heap.size, 0, none⟩ = some (.slice a N cap) := by rw [hB1]; exact new_cell _ _ _ 0
      have H1 := Lib.hid (And.intro k1 (And.intro bt (And.intro (HTS.out.1.kbF k1) (HTS.out.2.kb k1))))
      clear hB1 k1 bt
      go_loopw [20, 2, 3] (fun kv av ev wr => ∃ k : Nat, k ≤ N ∧ kv = .int .i64 k ∧ av = .int .i64 0 ∧ ev = .int .i64 0 ∧ KB F0 B1 wr ∧ Hid (∀ i, i < k → asksN ts (ts.getD i nd0) = true)) (fun kv _ _ _ => N - (intOf kv).toNat)
      case atStart => exact ⟨0, by omega, rfl, rfl, rfl, KB.refl _ _, Lib.hid (fun i hi => by omega)⟩
      case round =>
        obtain ⟨k, hk, rfl, rfl, rfl, hkb, hall⟩ := hrel
        have bt := hkb.cell (p := ⟨w0.heap.size, 0, none⟩) (fun x => x) H1.out.2.1
        have HK := Lib.hid hkb
        by_cases hlt : k < N
        · have hA := Lib.hid (Ask.out k wr hlt (H1.out.2.2.1.kbF hkb) (H1.out.2.2.2.kb hkb))
          obtain ⟨q, hq⟩ : ∃ q, q = asksN ts (ts.getD k nd0) := ⟨_, rfl⟩
          rw [← hq] at hA
          have Hq := Lib.hid hq
          clear hkb hq
          cases q
          · have hC : Hid (C = 30) := Lib.hid (Cbad.out (fun h => Hbad.out k hlt Hq.out.symm h.1))
            go_wp2_with fail
            refine hA.out.mono ?_
            rintro e w1 ⟨rfl, hk1⟩
            have bt1 := hk1.cell (p := ⟨w0.heap.size, 0, none⟩) (fun x => x) bt
            have HK1 := Lib.hid (HK.out.trans hk1)
            have hM := Lib.hid (Met.out w1 (H1.out.2.2.1.kbF HK1.out))
            clear hk1 hA bt
            go_wp2_with fail
            refine hM.out.mono ?_
            rintro e w2 ⟨⟨n, rfl⟩, hk2⟩
            have HK2 := Lib.hid ((H1.out.1.trans HK1.out).trans hk2)
            have bt2 := hk2.cell (p := ⟨w0.heap.size, 0, none⟩) (fun x => x) bt1
            clear hk2 hM bt1
            generalize decide (Wt ts 0 = some N) = ok
            cases ok
            · by_cases hnk : n < k
              · go_wp2
                go_ret2
                exact ⟨⟨_, by rw [hC.out]; rfl⟩, HK2.out⟩
              · have hnk' : k ≤ n := by omega
                go_wp2
                go_ret2
                exact ⟨⟨_, by rw [hC.out]; rfl⟩, HK2.out⟩
            · go_wp2
              go_ret2
              exact ⟨⟨_, by rw [hC.out]; rfl⟩, HK2.out⟩
          · have hall' : Hid (∀ i, i < k + 1 → asksN ts (ts.getD i nd0) = true) := Lib.hid (fun i hi => by
              rcases Nat.lt_or_eq_of_le (Nat.lt_succ_iff.1 hi) with h | rfl
              · exact hall.out i h
              · exact Hq.out.symm)
            go_wp2_with fail
            refine hA.out.mono ?_
            rintro e w1 ⟨rfl, hk1⟩
            have HK1 := Lib.hid (HK.out.trans hk1)
            clear hk1 hA bt hall
            go_wp2
            go_roundw
            case rel => exact ⟨k + 1, by omega, by go_num, rfl, rfl, HK1.out, hall'⟩
            case measure => simp [intOf]; omega
        · obtain rfl : k = N := by omega
          have hM := Lib.hid (Met.out wr (H1.out.2.2.1.kbF hkb))
          have hAll := Lib.hid (Hgood.out hall.out)
          clear hkb hall
          go_wp2_with fail
          refine hM.out.mono ?_
          rintro e w2 ⟨⟨n, rfl⟩, hk2⟩
          have bt2 := hk2.cell (p := ⟨w0.heap.size, 0, none⟩) (fun x => x) bt
          have HK2 := Lib.hid ((H1.out.1.trans HK.out).trans hk2)
          have HT2 := Lib.hid (H1.out.2.2.1.kbF (HK.out.trans hk2))
          clear hk2 hM bt
          by_cases hw : Wt ts 0 = some k
          · rw [decide_eq_true hw]
            have hg : Good ts := ⟨by rw [← HN.out]; exact hpos, by rw [hw, HN.out]⟩
            have hD := Lib.hid (Dee.out hg w2 HT2.out)
            have hC : Hid (C = if 48 < deepN ts then 4 else 0) := Lib.hid (Cgood.out ⟨hAll.out, hw⟩)
            have hdb : deepN ts ≤ 20000 := by
              have := deepF_le ts ts.length 0
              have := HN.out
              unfold deepN; omega
            generalize deepN ts = d at hD hC hdb
            clear hw hg
            by_cases h48 : 48 < d
            · have hC2 : Hid (C = 4) := Lib.hid (by rw [hC.out, if_pos h48])
              go_wp2_with fail
              refine hD.out.mono ?_
              rintro e w3 ⟨rfl, hk3⟩
              have HK3 := Lib.hid (HK2.out.trans hk3)
              clear hk3 hD hC
              go_wp2
              go_ret2
              exact ⟨⟨0, by rw [hC2.out]; rfl⟩, HK3.out⟩
            · have hC2 : Hid (C = 0) := Lib.hid (by rw [hC.out, if_neg h48])
              have h48' : d ≤ 48 := by omega
              go_wp2_with fail
              refine hD.out.mono ?_
              rintro e w3 ⟨rfl, hk3⟩
              have HK3 := Lib.hid (HK2.out.trans hk3)
              clear hk3 hD hC
              go_wp2
              go_ret2
              exact ⟨⟨0, by rw [hC2.out]; rfl⟩, HK3.out⟩
          · rw [decide_eq_false hw]
            have hC : Hid (C = 30) := Lib.hid (Cbad.out (fun h => hw h.2))
            clear hw
            go_wp2
            go_ret2
            exact ⟨⟨n, by rw [hC.out]; rfl⟩, HK2.out⟩
theorem may_any (ts : List Nd) (hlen : ts.length < 100000000) (hok : ∀ x ∈ ts, NdOk x) (a : Option Addr) (cap : Nat) (w : World) (hts : NodesAt w a ts) (hT : Tab w) :
    Calls Tryz.prog 26 #[.agg #[.slice a ts.length cap]] w fun e w' => e = .returned (.bool (mayN ts)) ∧ KB F0 w w' := by
  obtain ⟨w0, rfl⟩ : ∃ w0, w0 = w := ⟨_, rfl⟩
  have ka := (KB.refl F0 w0).alloc (.cells #[.slice a ts.length cap] 24)
  have Hc := Lib.hid (check_any ts hlen hok a cap _ (hts.kbF ka) (hT.kb ka))
  obtain ⟨m, hm⟩ : ∃ m, m = mayN ts := ⟨_, rfl⟩
  have hm' : m = decide (chk ts = 0) := hm
  rw [← hm]
  have hle := chk_le ts
  generalize chk ts = c at Hc hm' hle
  generalize ts.length = N at *
  have Hm := Lib.hid hm'
  clear hm hm' hts hT hok
  go_enter Tryz.func26, Tryz.ntmps26
  go_wp2_with fail
  refine Hc.out.mono ?_
  rintro e w1 ⟨⟨at_, rfl⟩, hk1⟩
  have HK := Lib.hid (ka.trans hk1)
  clear hk1 Hc ka
  go_wp2
  go_ret
  refine ⟨?_, HK.out⟩
  rw [Hm.out]
  refine ret_eq ?_
  by_cases h : c = 0
  · subst h; rfl
  · have : ((c : Int) == 0) = false := by simpa using h
    simp [h, this]
end Go.Proofs.YtoophdcagpfmpaaGreatDoor

/- print: a node's lines. How long the lines of a tree are, all in all. A strings.Builder that a call makes itself. -/
import Derived.Test.YtoophdcagpfmpaaGreatDoorPrN
import Derived.Test.YtoophdcagpfmpaaGreatDoorMg12
import Derived.Test.YtoophdcagpfmpaaGreatDoorMg03
namespace Go.Proofs.YtoophdcagpfmpaaGreatDoor
open Go.RowKit

/-- New lines, as an own slice. -/
def LnEnd (w : World) (L : List ByteArray) (e : Ending) (w' : World) : Prop := ∃ v, e = .returned v ∧ w'.ownsRow w.heap.size 9 1 v L.length (L.map Value.string) ∧ KB F0 w w'
def rootOk (k : Nat) : Bool := decide (k = 1) || decide (k = 2) || decide (k = 4) || isStmtB k
theorem lines_len {ts : List Nd} (h : TOk ts) : (linesN ts).length ≤ 2 * ts.length := by
  have h0 := h.good.1
  have hw := wt1_pos h.good h0
  unfold linesN
  split
  · have hc := catK_len (g := fun i => if i < (ts.getD 0 nd0).l.length then St5 ts (kid (ts.getD 0 nd0) i) 0 ByteArray.empty else []) (w := wK ts (ts.getD 0 nd0)) (k := (ts.getD 0 nd0).l.length) (fun i hi => by
      have hk := h.kid h0 hi
      rw [if_pos hi, wK_at hi]
      exact St_len h hk.2.1 _ _)
    have := wK_sum h.good h0 (ts.getD 0 nd0).l.length
    omega
  · have := St_len h h0 0 ByteArray.empty
    omega
theorem own_low {w : World} {B B' : Nat} {e : TypeId} {size : Nat} {v : Value} {n : Nat} {xs : List Value} (h : w.ownsRow B e size v n xs) (hb : B' ≤ B) : w.ownsRow B' e size v n xs := own_base h hb
set_option maxRecDepth 100000 in
set_option maxHeartbeats 8000000 in
theorem lines_any (ts : List Nd) (h : TOk ts) (hok : ∀ x ∈ ts, NdOk x) (a : Option Addr) (cap : Nat) (w : World) (hts : NodesAt w a ts) (hT : PT w) (hr : rootOk (ts.getD 0 nd0).k = true) :
    Calls Tryz.prog 37 #[.slice a ts.length cap, .int .i64 0] w (LnEnd w (linesN ts)) := by
  obtain ⟨w0, rfl⟩ : ∃ w0, w0 = w := ⟨_, rfl⟩
  have h0 := h.good.1
  have hlen := h.len
  have hw0 := wt1_pos h.good h0
  obtain ⟨R, hR⟩ : ∃ R, R = linesN ts := ⟨_, rfl⟩
  rw [← hR]
  unfold linesN at hR
  obtain ⟨sv, hsv⟩ : ∃ sv, sv = Value.slice a ts.length cap := ⟨_, rfl⟩
  obtain ⟨W1, hW1⟩ : ∃ W1, W1 = w0.alloc (.cells #[sv, .slice none 0 0, .int .i64 0] 96) := ⟨_, rfl⟩
  have k1 : KB F0 w0 W1 := by rw [hW1]; exact (KB.refl _ _).alloc _
  have hp1 : Pg W1 w0.heap.size sv (.slice none 0 0) [] ((0 : Nat) : Int) := ⟨by rw [hW1]; exact alloc_new _ _, World.ownsRow_nil _ _ _ _⟩
  have ST : ∀ q, q < ts.length → StmtAt ts a cap w0 w0.heap.size q := fun q hq => stmt_any ts h hok a cap w0 w0.heap.size (Nat.le_refl _) hts hT hq
  have hpto : ∀ (W : World) (vk : Value), PgTo W1 W w0.heap.size (.slice none 0 0) vk → KB F0 w0 W := fun _ _ ht => ht.base hp1 k1 (Nat.le_refl _)
  have hkids : (ts.getD 0 nd0).k = 1 → ∀ i, i < (ts.getD 0 nd0).l.length → ∃ q : Nat, (ts.getD 0 nd0).l.getD i 0 = (q : Int) ∧ (fun i => if i < (ts.getD 0 nd0).l.length then St5 ts (kid (ts.getD 0 nd0) i) 0 ByteArray.empty else []) i = St5 ts q 0 (blB 0) ∧ (St5 ts q 0 (blB 0)).length ≤ 2 * wK ts (ts.getD 0 nd0) i ∧ wt1 ts q = wK ts (ts.getD 0 nd0) i ∧
      ∀ (w : World) (v : Value) (out : List ByteArray), Pg w w0.heap.size sv v out ((0 : Nat) : Int) → KB F0 w0 w → out.length + 2 * wt1 ts q ≤ 1000000 → Calls Tryz.prog 68 #[.pointer (some ⟨w0.heap.size, 0, none⟩), .int .i64 q] w (PgEnd w w0.heap.size sv v (out ++ St5 ts q 0 (blB 0)) ((0 : Nat) : Int)) := fun e i hi => by
    have e2 := h.kid h0 hi
    refine ⟨_, e2.2.2, if_pos hi, by rw [wK_at hi]; exact St_len h e2.2.1 _ _, (wK_at hi).symm, fun w v out h1 h2 h3 => ?_⟩
    rw [hsv] at h1 ⊢
    exact ST _ e2.2.1 w v out 0 (Or.inr (h.file h0 e i hi)) h1 h2 (Nat.zero_le _) h3
  have hone : (ts.getD 0 nd0).k ≠ 1 → Calls Tryz.prog 68 #[.pointer (some ⟨w0.heap.size, 0, none⟩), .int .i64 0] W1 (PgEnd W1 w0.heap.size sv (.slice none 0 0) (St5 ts 0 0 (blB 0)) ((0 : Nat) : Int)) := fun e => by
    have hks : isStmtB (ts.getD 0 nd0).k = true ∨ (ts.getD 0 nd0).k = 2 ∨ (ts.getD 0 nd0).k = 4 := by
      unfold rootOk at hr
      simp only [Bool.or_eq_true, decide_eq_true_eq] at hr
      rcases hr with ((h1 | h1) | h1) | h1
      · exact absurd h1 e
      · exact Or.inr (Or.inl h1)
      · exact Or.inr (Or.inr h1)
      · exact Or.inl h1
    have := ST 0 h0 W1 (.slice none 0 0) [] 0 hks (by rw [← hsv]; exact hp1) k1 (Nat.le_refl _) (by simp; omega)
    rw [← hsv, List.nil_append] at this
    exact this
  have hws := fun k => wK_sum h.good h0 k
  have hwl := hw0.2
  obtain ⟨b, off, rfl, hx⟩ := hts 0 h0
  obtain ⟨la, lc, hl4, hints, hlc, hlm⟩ := hx.l
  unfold maxLen at hlm
  clear ST hts hT hr hok
  generalize hG : (fun i => if i < (ts.getD 0 nd0).l.length then St5 ts (kid (ts.getD 0 nd0) i) 0 ByteArray.empty else []) = G at hR hkids
  generalize hWK : wK ts (ts.getD 0 nd0) = WK at hkids hws
  have ck := k1.cell (p := ⟨b, off + 0 * 5, none⟩) (fun x => x) hx.k
  rw [Nat.zero_mul, Nat.add_zero] at ck
  have cl := k1.cell (p := ⟨b, off + 0 * 5 + 4, none⟩) (fun x => x) hl4
  rw [Nat.zero_mul, Nat.add_zero] at cl
  generalize (ts.getD 0 nd0).k = K at hR hkids hone ck
  generalize (ts.getD 0 nd0).l = l at hR hkids hints cl hlc
  obtain ⟨M, hM⟩ : ∃ M, M = l.length := ⟨_, rfl⟩
  rw [← hM] at hR hkids cl hlc
  have HI := Lib.hid (fun i (hi : i < M) => hints i (by rw [← hM]; exact hi))
  have HKD := Lib.hid hkids
  have HON := Lib.hid hone
  have HR := Lib.hid hR
  have HTO := Lib.hid hpto
  have HP1 := Lib.hid hp1
  have HW := Lib.hid hW1
  have HWS := Lib.hid (And.intro hws (And.intro hwl hlen))
  generalize ts.length = N at h0 hsv hwl ⊢
  have h0i : (0 : Int) < (N : Int) := by omega
  rw [hW1] at ck cl
  rw [hsv] at ck cl
  have HSV := Lib.hid hsv
  have hW2 : W1 = w0.alloc (.cells #[.slice (some ⟨b, off, none⟩) N cap, .slice none 0 0, .int .i64 0] 96) := by rw [hW1, hsv]
  have HW2 := Lib.hid hW2
  clear hx hl4 hints hkids hone hR hpto hp1 hW1 hws hwl hw0 hlen hG hWK hM h hsv hW2 HW
  by_cases hK : K = 1
  · have t1 : ((K : Int) != 1) = false := by rw [hK]; rfl
    have HE : Hid (R = catK G M) := Lib.hid (by rw [HR.out, if_pos hK])
    have HKD2 := Lib.hid (HKD.out hK)
    clear hK HKD HON HR
    go_enter Tryz.func37, Tryz.ntmps37
    go_wp2_with fail
    rw [← HW2.out]
    clear ck cl
    have H0 : Hid (∃ vk, Pg W1 w0.heap.size sv vk (catK G 0) ((0 : Nat) : Int) ∧ PgTo W1 W1 w0.heap.size (.slice none 0 0) vk) := Lib.hid ⟨_, HP1.out, PgTo.of (KB.refl _ _)⟩
    go_loopw [30] (fun kv wr => ∃ k : Nat, k ≤ M ∧ kv = .int .i64 (k : Nat) ∧ Hid (∃ vk, Pg wr w0.heap.size sv vk (catK G k) ((0 : Nat) : Int) ∧ PgTo W1 wr w0.heap.size (.slice none 0 0) vk)) (fun kv _ => M - (intOf kv).toNat)
    case atStart => exact ⟨0, by omega, rfl, H0⟩
    case round =>
      obtain ⟨k, hk, rfl, hst⟩ := hrel
      clear H0
      by_cases hlt : k < M
      · have hkM : (k : Int) < (M : Int) := by omega
        obtain ⟨vk, hpk, htk⟩ := hst.out
        have hbb := HTO.out _ _ htk
        obtain ⟨lb, lo, rfl, hc0⟩ := HI.out k hlt
        obtain ⟨q, hq, hGk, hlq, hwq, hS⟩ := HKD2.out k hlt
        rw [hq] at hc0
        have hc1 := hbb.cell (p := ⟨lb, lo + k, none⟩) (fun x => x) hc0
        have hcl : (catK G k).length ≤ 2 * sumK WK k := catK_len (fun i hi => by
          obtain ⟨q2, -, h3, h4, -⟩ := HKD2.out i (by omega)
          rw [h3]; exact h4)
        have hS := hS wr vk (catK G k) hpk hbb (by
          have h1 := HWS.out.1 (k + 1)
          have h2 : sumK WK (k + 1) = sumK WK k + WK k := rfl
          have h3 := HWS.out.2
          omega)
        rw [← hGk, show catK G k ++ G k = catK G (k + 1) from rfl] at hS
        have HS := Lib.hid hS
        have HT := Lib.hid htk
        clear hS hpk htk hbb hc0 hq hGk hlq hwq hcl hst
        go_wp2_with fail
        refine HS.out.mono ?_
        rintro e w3 ⟨rfl, v3, hp3, ht3⟩
        have H3 : Hid (∃ vk, Pg w3 w0.heap.size sv vk (catK G (k + 1)) ((0 : Nat) : Int) ∧ PgTo W1 w3 w0.heap.size (.slice none 0 0) vk) := Lib.hid ⟨v3, hp3, HT.out.trans ht3⟩
        clear hp3 ht3 HS HT hc1
        go_wp2_with fail
        go_roundw
        case rel => exact ⟨k + 1, by omega, by go_num, H3⟩
        case measure => simp [intOf]; omega
      · obtain rfl : k = M := by omega
        obtain ⟨vk, hpk, htk⟩ := hst.out
        have c1 := blk_cell hpk.blk 1
        have H3 := Lib.hid (And.intro hpk (HTO.out _ _ htk))
        clear hpk htk hst
        go_wp2_with fail
        go_ret
        refine ⟨_, rfl, ?_, H3.out.2⟩
        rw [HE.out]
        exact own_base H3.out.1.own (Nat.le_succ _)
  · have t1 : ((K : Int) != 1) = true := by simp; omega
    have HE : Hid (R = St5 ts 0 0 (blB 0)) := Lib.hid (by rw [HR.out, if_neg hK]; rfl)
    have HO2 := Lib.hid (HON.out hK)
    clear hK HKD HON HR
    go_enter Tryz.func37, Tryz.ntmps37
    go_wp2_with fail
    rw [← HW2.out]
    clear ck cl
    refine HO2.out.mono ?_
    rintro e w3 ⟨rfl, v3, hp3, ht3⟩
    have c1 := blk_cell hp3.blk 1
    have H3 := Lib.hid (And.intro hp3 (HTO.out _ _ ht3))
    clear hp3 ht3 HO2
    go_wp2_with fail
    go_ret
    refine ⟨_, rfl, ?_, H3.out.2⟩
    rw [HE.out]
    exact own_base H3.out.1.own (Nat.le_succ _)
end Go.Proofs.YtoophdcagpfmpaaGreatDoor

namespace Go.Proofs.YtoophdcagpfmpaaGreatDoor
open Go.RowKit

def szL (l : List ByteArray) : Nat := (l.map fun s => s.size + 1).sum
theorem szL_app (a b : List ByteArray) : szL (a ++ b) = szL a + szL b := by unfold szL; rw [List.map_append, List.sum_append]
theorem szL_one (s : ByteArray) : szL [s] = s.size + 1 := by simp [szL]
theorem szL_drop (l : List ByteArray) : szL l.dropLast ≤ szL l := by
  rcases List.eq_nil_or_concat l with rfl | ⟨a, b, rfl⟩
  · exact Nat.le_refl _
  · rw [List.concat_eq_append, List.dropLast_concat, szL_app]; omega
theorem szL_cat {g : Nat → List ByteArray} {w : Nat → Nat} {k : Nat} (h : ∀ i, i < k → szL (g i) ≤ 200000 * w i) : szL (catK g k) ≤ 200000 * sumK w k := by
  induction k with
  | zero => exact Nat.zero_le _
  | succ k ih =>
    have h1 := ih (fun i hi => h i (by omega))
    have h2 := h k (by omega)
    show szL (catK g k ++ g k) ≤ 200000 * (sumK w k + w k)
    rw [szL_app]; omega
section
variable {ts : List Nd} (h : TOk ts) (hok : ∀ x ∈ ts, NdOk x)
include h
theorem tyK_sz {n : Nat} (hn : n < ts.length) (i : Nat) : (tyK ts (ts.getD n nd0) i).size ≤ 200 * wK ts (ts.getD n nd0) i := by
  unfold tyK wK
  by_cases hi : i < (ts.getD n nd0).l.length
  · have e2 := h.kid hn hi
    rw [if_pos hi, if_pos hi]
    have := Ty_size h e2.2.1
    omega
  · rw [if_neg hi, if_neg hi]; exact Nat.le_refl _
theorem jn_td {n : Nat} (hn : n < ts.length) (a k : Nat) : (jnK ⟨#[44, 32]⟩ (fun i => tdK ts (ts.getD n nd0) (a + i)) k).size ≤ 200 * sumK (fun i => wK ts (ts.getD n nd0) (a + i)) k + 2 * k := by
  induction k with
  | zero => exact Nat.zero_le _
  | succ k ih =>
    have h2 : (tdK ts (ts.getD n nd0) (a + k)).size ≤ 200 * wK ts (ts.getD n nd0) (a + k) := by
      unfold tdK
      by_cases hi : a + k < (ts.getD n nd0).l.length
      · have e2 := h.kid hn hi
        have := typed_size h e2.2.1
        rw [if_pos hi, wK_at hi]
        omega
      · rw [if_neg hi]; exact Nat.zero_le _
    have e1 : (⟨#[44, 32]⟩ : ByteArray).size = 2 := rfl
    have e2 : sumK (fun i => wK ts (ts.getD n nd0) (a + i)) (k + 1) = sumK (fun i => wK ts (ts.getD n nd0) (a + i)) k + wK ts (ts.getD n nd0) (a + k) := rfl
    unfold jnK
    split
    · rename_i h0
      subst h0
      omega
    · rw [ByteArray.size_append, ByteArray.size_append]; omega
theorem jn_lf {n : Nat} (hn : n < ts.length) (k : Nat) : (jnK ⟨#[44, 32]⟩ (lfK ts (ts.getD n nd0)) k).size ≤ 200 * sumK (wK ts (ts.getD n nd0)) k + 2 * k := by
  induction k with
  | zero => exact Nat.zero_le _
  | succ k ih =>
    have h2 : (lfK ts (ts.getD n nd0) k).size ≤ 200 * wK ts (ts.getD n nd0) k := by
      unfold lfK
      by_cases hi : k < (ts.getD n nd0).l.length
      · have e2 := h.kid hn hi
        have := life_size h e2.2.1
        rw [if_pos hi, wK_at hi]
        omega
      · rw [if_neg hi]; exact Nat.zero_le _
    have e1 : (⟨#[44, 32]⟩ : ByteArray).size = 2 := rfl
    have e2 : sumK (wK ts (ts.getD n nd0)) (k + 1) = sumK (wK ts (ts.getD n nd0)) k + wK ts (ts.getD n nd0) k := rfl
    unfold jnK
    split
    · rename_i h0
      subst h0
      omega
    · rw [ByteArray.size_append, ByteArray.size_append]; omega
include hok
theorem exK_sz {n : Nat} (hn : n < ts.length) (i : Nat) : (exK ts (ts.getD n nd0) i).size ≤ 200 * wK ts (ts.getD n nd0) i := by
  unfold exK wK
  by_cases hi : i < (ts.getD n nd0).l.length
  · have e2 := h.kid hn hi
    rw [if_pos hi, if_pos hi]
    have := Ex_size h hok 1 e2.2.1
    omega
  · rw [if_neg hi, if_neg hi]; exact Nat.le_refl _
theorem st_size (d : Nat) : ∀ n inn P, n < ts.length → ts.length ≤ n + d → inn ≤ n → szL (St5 ts n inn P) ≤ P.size + 200000 * wt1 ts n - 70000 := by
  induction d with
  | zero => intro n inn P h1 h2; omega
  | succ d ih =>
    intro n inn P hn h2 hin
    have hs := (h.txt hn).2.1
    have hp := wt1_pos h.good hn
    have hlen := h.len
    have hbl := blB_size inn
    have hch : ∀ i inn P, inn ≤ n + 1 → szL (if i < (ts.getD n nd0).l.length then St5 ts (kid (ts.getD n nd0) i) inn P else []) ≤ if i < (ts.getD n nd0).l.length then P.size + 200000 * wK ts (ts.getD n nd0) i - 70000 else 0 := by
      intro i inn P hi2
      unfold wK
      by_cases hi : i < (ts.getD n nd0).l.length
      · have hk := h.kid hn hi
        rw [if_pos hi, if_pos hi, if_pos hi]
        exact ih _ _ _ hk.2.1 (by omega) (by omega)
      · rw [if_neg hi, if_neg hi]; exact Nat.le_refl _
    have hw1 : ∀ i, i < (ts.getD n nd0).l.length → 1 ≤ wK ts (ts.getD n nd0) i := fun i hi => by
      have hk := h.kid hn hi
      rw [wK_at hi]
      exact (wt1_pos h.good hk.2.1).1
    have hch2 : ∀ i inn P, inn ≤ n + 1 → szL (if i < (ts.getD n nd0).l.length then St5 ts (kid (ts.getD n nd0) i) inn P else []) ≤ P.size + 200000 * wK ts (ts.getD n nd0) i := fun i inn P hi2 => by
      have := hch i inn P hi2
      split at this <;> rename_i hi <;> simp only [hi, if_true, if_false] at this ⊢ <;> omega
    have w3 := wK_sum h.good hn 3
    have wl := wK_sum h.good hn (ts.getD n nd0).l.length
    have hone : ∀ i, wK ts (ts.getD n nd0) i + 1 ≤ wt1 ts n := fun i => by
      have h1 := wK_sum h.good hn (i + 1)
      have : sumK (wK ts (ts.getD n nd0)) (i + 1) = sumK (wK ts (ts.getD n nd0)) i + wK ts (ts.getD n nd0) i := rfl
      omega
    have x0 := exK_sz h hok hn 0
    have x1 := exK_sz h hok hn 1
    have xl := exK_sz h hok hn ((ts.getD n nd0).l.length - 1)
    have y0 := tyK_sz h hn 0
    have ol := hone ((ts.getD n nd0).l.length - 1)
    have o2 := hone ((ts.getD n nd0).l.length - 2)
    simp only [sumK] at w3
    rw [St_eq h.down hn]
    unfold stN
    simp only
    split
    · rw [szL_one]
      have hj : (jnK ⟨#[44, 32]⟩ (tdK ts (ts.getD n nd0)) (ts.getD n nd0).l.length).size ≤ 200 * sumK (wK ts (ts.getD n nd0)) (ts.getD n nd0).l.length + 2 * (ts.getD n nd0).l.length := by
        have := jn_td h hn 0 (ts.getD n nd0).l.length
        simp only [Nat.zero_add] at this
        exact this
      have hl := h.struct hn (by assumption)
      have : (structB ts (ts.getD n nd0)).size ≤ 200 * (wt1 ts n - 1) + 100 := by
        unfold structB
        simp only [ByteArray.size_append]
        have e1 : (⟨#[115, 116, 114, 117, 99, 116, 32]⟩ : ByteArray).size = 7 := rfl
        have e2 : (⟨#[32, 123, 32]⟩ : ByteArray).size = 3 := rfl
        have e3 : (⟨#[32, 125]⟩ : ByteArray).size = 2 := rfl
        omega
      rw [ByteArray.size_append]
      omega
    · have hc := hch2 ((ts.getD n nd0).l.length - 1) inn (P ++ fnHead ts (ts.getD n nd0)) (by omega)
      obtain ⟨k, hk, hk8, hk2, hl18, -, -, -, -⟩ := h.fn hn (by assumption)
      have j1 := jn_lf h hn k
      have j2 := jn_td h hn k ((ts.getD n nd0).l.length - 2 - k)
      have j3 := sumK_shift (wK ts (ts.getD n nd0)) k ((ts.getD n nd0).l.length - 2 - k)
      have j4 := tyK_sz h hn ((ts.getD n nd0).l.length - 2)
      obtain ⟨M, hM⟩ : ∃ M, (ts.getD n nd0).l.length = M + 2 := ⟨(ts.getD n nd0).l.length - 2, by omega⟩
      have w5 : sumK (wK ts (ts.getD n nd0)) (M + 2) = sumK (wK ts (ts.getD n nd0)) M + wK ts (ts.getD n nd0) M + wK ts (ts.getD n nd0) (M + 1) := rfl
      have hf : (fnHead ts (ts.getD n nd0)).size ≤ 200 * sumK (wK ts (ts.getD n nd0)) M + 200 * wK ts (ts.getD n nd0) M + 200 := by
        unfold fnHead livesB parB
        rw [hk, Int.toNat_natCast]
        have e1 : (⟨#[102, 110, 32]⟩ : ByteArray).size = 3 := rfl
        have e2 : (⟨#[40]⟩ : ByteArray).size = 1 := rfl
        have e3 : (⟨#[41, 32, 45, 62, 32]⟩ : ByteArray).size = 5 := rfl
        have e4 : (⟨#[32]⟩ : ByteArray).size = 1 := rfl
        have e5 : (⟨#[60]⟩ : ByteArray).size = 1 := rfl
        have e6 : (⟨#[62]⟩ : ByteArray).size = 1 := rfl
        have e7 : ByteArray.empty.size = 0 := rfl
        rw [hM] at j2 j3 j4 ⊢
        rw [show M + 2 - 2 = M by omega] at j2 j3 j4 ⊢
        rw [show k + (M - k) = M by omega] at j3
        split
        · simp only [ByteArray.size_append]; omega
        · simp only [ByteArray.size_append]; omega
      rw [hM] at hc wl
      rw [show M + 2 - 1 = M + 1 by omega] at hc
      rw [ByteArray.size_append] at hc
      rw [hM, show M + 2 - 1 = M + 1 by omega]
      omega
    · have hc := szL_cat (g := fun i => if i < (ts.getD n nd0).l.length then St5 ts (kid (ts.getD n nd0) i) (inn + 1) (blB (inn + 1)) else []) (w := wK ts (ts.getD n nd0)) (k := (ts.getD n nd0).l.length) (fun i hi => by
        have h3 := hch i (inn + 1) (blB (inn + 1)) (by omega)
        rw [if_pos hi] at h3
        have h4 := blB_size (inn + 1)
        have h5 := hw1 i hi
        rw [if_pos hi] at h3 ⊢
        omega)
      have e1 : (⟨#[123]⟩ : ByteArray).size = 1 := rfl
      have e2 : (⟨#[125]⟩ : ByteArray).size = 1 := rfl
      rw [szL_app, szL_app, szL_one, szL_one, ByteArray.size_append, ByteArray.size_append]
      omega
    · rw [szL_one]
      have : (letB ts (ts.getD n nd0)).size ≤ 400 * (wt1 ts n - 1) + 100 := by
        have e1 : (⟨#[108, 101, 116, 32]⟩ : ByteArray).size = 4 := rfl
        have e2 : (⟨#[58, 32]⟩ : ByteArray).size = 2 := rfl
        have e3 : (⟨#[32, 61, 32]⟩ : ByteArray).size = 3 := rfl
        unfold letB letA
        split <;> split <;> simp only [ByteArray.size_append] <;> omega
      have e1 : (⟨#[59]⟩ : ByteArray).size = 1 := rfl
      simp only [ByteArray.size_append]
      omega
    · rw [szL_one]
      have e1 : (⟨#[59]⟩ : ByteArray).size = 1 := rfl
      have e2 : (⟨#[32, 61, 32]⟩ : ByteArray).size = 3 := rfl
      simp only [ByteArray.size_append]
      omega
    · have h1 := hch2 1 inn (P ++ (⟨#[105, 102, 32]⟩ ++ exK ts (ts.getD n nd0) 0 ++ ⟨#[32]⟩)) (by omega)
      have h2 := hch2 2 inn (blB inn ++ ⟨#[125, 32, 101, 108, 115, 101, 32]⟩) (by omega)
      have e1 : (⟨#[105, 102, 32]⟩ : ByteArray).size = 3 := rfl
      have e2 : (⟨#[32]⟩ : ByteArray).size = 1 := rfl
      have e3 : (⟨#[125, 32, 101, 108, 115, 101, 32]⟩ : ByteArray).size = 7 := rfl
      simp only [ByteArray.size_append] at h1 h2
      split
      · omega
      · rw [szL_app]
        have := szL_drop (if 1 < (ts.getD n nd0).l.length then St5 ts (kid (ts.getD n nd0) 1) inn (P ++ (⟨#[105, 102, 32]⟩ ++ exK ts (ts.getD n nd0) 0 ++ ⟨#[32]⟩)) else [])
        omega
    · have h1 := hch2 1 inn (P ++ (⟨#[119, 104, 105, 108, 101, 32]⟩ ++ exK ts (ts.getD n nd0) 0 ++ ⟨#[32]⟩)) (by omega)
      have e1 : (⟨#[119, 104, 105, 108, 101, 32]⟩ : ByteArray).size = 6 := rfl
      have e2 : (⟨#[32]⟩ : ByteArray).size = 1 := rfl
      simp only [ByteArray.size_append] at h1
      omega
    · have h1 := hch2 0 inn (P ++ ⟨#[108, 111, 111, 112, 32]⟩) (by omega)
      have e1 : (⟨#[108, 111, 111, 112, 32]⟩ : ByteArray).size = 5 := rfl
      simp only [ByteArray.size_append] at h1
      omega
    · rw [szL_one]
      have e1 : (⟨#[98, 114, 101, 97, 107, 59]⟩ : ByteArray).size = 6 := rfl
      simp only [ByteArray.size_append]
      omega
    · rw [szL_one]
      have e1 : (⟨#[99, 111, 110, 116, 105, 110, 117, 101, 59]⟩ : ByteArray).size = 9 := rfl
      simp only [ByteArray.size_append]
      omega
    · rw [szL_one]
      have e1 : (⟨#[114, 101, 116, 117, 114, 110, 32]⟩ : ByteArray).size = 7 := rfl
      have e2 : (⟨#[59]⟩ : ByteArray).size = 1 := rfl
      simp only [ByteArray.size_append]
      omega
    · rw [szL_one]
      have e1 : (⟨#[112, 114, 105, 110, 116, 40]⟩ : ByteArray).size = 6 := rfl
      have e2 : (⟨#[41, 59]⟩ : ByteArray).size = 2 := rfl
      simp only [ByteArray.size_append]
      omega
    · rw [szL_one]
      have e2 : (⟨#[59]⟩ : ByteArray).size = 1 := rfl
      simp only [ByteArray.size_append]
      omega
    · exact Nat.zero_le _
theorem lines_size : szL (linesN ts) ≤ 200000 * ts.length := by
  have h0 := h.good.1
  have hw := wt1_pos h.good h0
  unfold linesN
  split
  · have hc := szL_cat (g := fun i => if i < (ts.getD 0 nd0).l.length then St5 ts (kid (ts.getD 0 nd0) i) 0 ByteArray.empty else []) (w := wK ts (ts.getD 0 nd0)) (k := (ts.getD 0 nd0).l.length) (fun i hi => by
      have hk := h.kid h0 hi
      have h3 := st_size h hok ts.length _ 0 ByteArray.empty hk.2.1 (by omega) (Nat.zero_le _)
      rw [if_pos hi, wK_at hi]
      have : ByteArray.empty.size = 0 := rfl
      omega)
    have := wK_sum h.good h0 (ts.getD 0 nd0).l.length
    omega
  · have h3 := st_size h hok ts.length 0 0 ByteArray.empty h0 (by omega) (Nat.zero_le _)
    have : ByteArray.empty.size = 0 := rfl
    omega
end
end Go.Proofs.YtoophdcagpfmpaaGreatDoor

namespace Go.Proofs.YtoophdcagpfmpaaGreatDoor
open Go.RowKit

theorem bSize : (Tryz.prog.info? 66).map (·.size) = some 2 := by kernel_rfl
theorem bLies : liesAt Tryz.prog Tryz.prog.depth 66 (2 / Tryz.prog.cellsOf 66) 0 66 1 = true := by kernel_rfl
theorem bByte : (Tryz.prog.info? 5).map (fun i => (i.zero, i.size, i.bytes)) = some (some (.int .u8 0), 1, 1) := by kernel_rfl
set_option maxHeartbeats 2000000 in
set_option maxRecDepth 100000 in
theorem bcheck_any (B b : Nat) (bs : List Value) (w : World) (h : Lib.IsBuilderF 66 5 B b bs w) :
    Calls Tryz.prog 69 #[.pointer (some ⟨b, 0, none⟩)] w fun e w' => e = .returned (.tuple #[]) ∧ (Lib.BuilderAtF 66 5 B b (.pointer (some ⟨b, 0, none⟩)) bs w' ∧ Below B w w' ∧ Lib.OthersKept 5 (some b) w w') := by
  obtain ⟨j, hj, hjs⟩ := Option.map_eq_some_iff.1 bSize
  rcases h with h | h
  · have hfin : ∀ e w', (e = Ending.returned (.tuple #[]) ∧ w' = w.setCell ⟨b, 0, none⟩ (.pointer (some ⟨b, 0, none⟩))) → e = .returned (.tuple #[]) ∧ (Lib.BuilderAtF 66 5 B b (.pointer (some ⟨b, 0, none⟩)) bs w' ∧ Below B w w' ∧ Lib.OthersKept 5 (some b) w w') := by
      rintro e w' ⟨rfl, rfl⟩
      exact ⟨rfl, h.used _, (Below.refl B w).setCell (p := ⟨b, 0, none⟩) h.1 _, (Lib.OthersKept.refl _ _ w).setCell ⟨b, 0, none⟩ rfl _⟩
    have h0 := h.cell0
    have hsh := h.shape
    have hfz := h.frozen0
    refine Calls.mono ?_ hfin
    clear hfin h
    go_enter Tryz.func69, Tryz.ntmps69
    go_wp2
    rw [Lib.run_to_unsafe w ⟨b, 0, none⟩ Tryz.underlying63 Tryz.underlying136 hj (by rw [hjs]; decide) hsh (Nat.zero_lt_succ 1)]
    simp only [Result.andThen]
    rw [Oper.upon_value]
    go_wp2
    rw [run_callFunc_extern Tryz.func102 (by kernel_rfl) (by kernel_rfl) (by kernel_rfl) (e := Extern.AbiNoEscape.same) (by kernel_rfl)]
    rw [Lib.run_noEscape]
    simp only [Result.andThen]
    rw [Oper.upon_value]
    go_wp2
    rw [Lib.run_from_unsafe w ⟨b, 0, none⟩ Tryz.underlying136 Tryz.underlying63 hj hsh bLies]
    simp only [Result.andThen]
    rw [Oper.upon_value]
    go_wp2
    go_end0
    exact ⟨rfl, rfl⟩
  · have hfin : ∀ e w', (e = Ending.returned (.tuple #[]) ∧ w' = w) → e = .returned (.tuple #[]) ∧ (Lib.BuilderAtF 66 5 B b (.pointer (some ⟨b, 0, none⟩)) bs w' ∧ Below B w w' ∧ Lib.OthersKept 5 (some b) w w') := by
      rintro e w' ⟨rfl, rfl⟩
      exact ⟨rfl, h, Below.refl B _, Lib.OthersKept.refl _ _ _⟩
    have h0 := h.cell0
    refine Calls.mono ?_ hfin
    clear hfin h
    go_enter Tryz.func69, Tryz.ntmps69
    go_wp2
    rw [Lib.run_neq_ptr_same w _ Tryz.underlying63 hj]
    go_wp2
    go_end0
    exact ⟨rfl, rfl⟩
set_option maxHeartbeats 4000000 in
set_option maxRecDepth 100000 in
theorem wstr_any (B b : Nat) (bs : List Value) (s : ByteArray) (w : World) (h : Lib.IsBuilderF 66 5 B b bs w) (hlen : bs.length + s.size ≤ 140737488355328) (hBw : B ≤ w.heap.size) :
    Calls Tryz.prog 38 #[.pointer (some ⟨b, 0, none⟩), .string s] w fun e w' => e = .returned (.tuple #[.int .i64 s.size, .nilIface]) ∧ (Lib.BuilderAtF 66 5 B b (.pointer (some ⟨b, 0, none⟩)) (bs ++ Lib.strCells s) w' ∧ Below B w w' ∧ Lib.OthersKept 5 (some b) w w') := by
  obtain ⟨i0, hi, hz0, hz1, hz2⟩ := info_parts bByte
  have CK := Lib.hid (bcheck_any B b bs w h)
  have HL := Lib.hid (And.intro hlen hBw)
  clear hlen hBw h
  go_enter Tryz.func38, Tryz.ntmps38
  go_wp2_with fail
  refine CK.out.mono ?_
  rintro e w1 ⟨rfl, h1, hb1, hk1⟩
  obtain ⟨hB, v, hbk, hown, hne⟩ := h1
  have c0 : w1.cell? ⟨b, 0, none⟩ = some (.pointer (some ⟨b, 0, none⟩)) := by rw [Lib.cell_of_heap hbk]; rfl
  have c1 : w1.cell? ⟨b, 1, none⟩ = some v := by rw [Lib.cell_of_heap hbk]; rfl
  go_wp2_with (at_builtin; refine Lib.wpList_append_own_stringF _ rfl _ _ 64 9 rfl B 5 i0 Tryz.underlying64 Tryz.underlying9 hi hz0 hz1 hz2 _ _ _ rfl hown s rfl ?c3 ?c4 ?c5 ?_)
  case c3 => have := HL.out.1; unfold maxLen; omega
  case c4 => have := HL.out.1; omega
  case c5 => have := hb1.size; have := HL.out.2; omega
  intro v' w2 hown' hgrow _
  have hlt : b < w1.heap.size := heap_lt hbk
  have hb2 : w2.heap[b]? = some (.cells #[.pointer (some ⟨b, 0, none⟩), v] 66 (0, 0)) := by
    rw [hgrow.block b hlt (fun e => hne e.symm)]
    exact hbk
  have d0 : w2.cell? ⟨b, 0, none⟩ = some (.pointer (some ⟨b, 0, none⟩)) := by rw [Lib.cell_of_heap hb2]; rfl
  have d1 : w2.cell? ⟨b, 1, none⟩ = some v := by rw [Lib.cell_of_heap hb2]; rfl
  have f1 : w2.frozen? ⟨b, 1, none⟩ = false := Lib.frozen_of_heap hb2 1
  obtain ⟨ao, n', cap, rfl⟩ : ∃ ao n' cap, v' = .slice ao n' cap := by
    rcases hown'.2 with ⟨hv, _⟩ | ⟨g, cap, cur, fz, hv, _⟩
    · exact ⟨_, _, _, hv⟩
    · exact ⟨_, _, _, hv⟩
  have FIN : Hid (Lib.BuilderAtF 66 5 B b (.pointer (some ⟨b, 0, none⟩)) (bs ++ Lib.strCells s) (w2.setCell ⟨b, 1, none⟩ (.slice ao n' cap)) ∧ Below B w (w2.setCell ⟨b, 1, none⟩ (.slice ao n' cap)) ∧ Lib.OthersKept 5 (some b) w (w2.setCell ⟨b, 1, none⟩ (.slice ao n' cap))) := Lib.hid ⟨Lib.BuilderAtF.put (T := 66) (e := 5) hB hb2 (bs' := bs ++ Lib.strCells s) (by simpa [Lib.strCells_length] using hown') (by decide), (hb1.grown hgrow (by have := hb1.size; have := HL.out.2; omega) (fun k hk => (hown.lt k hk).1)).setCell (p := ⟨b, 1, none⟩) hB _, (hk1.grown hgrow (Lib.ownsRowF_kind hown)).setCell ⟨b, 1, none⟩ rfl _⟩
  go_wp2_with fail
  go_ret2
  exact ⟨rfl, FIN.out⟩
/-- At b a builder that holds the text s. -/
def BU (w : World) (B b : Nat) (s : ByteArray) : Prop := Lib.IsBuilderF 66 5 B b (Lib.strCells s) w
theorem builderAt_kb {w w' : World} {B b : Nat} {p : Value} {bs : List Value} (h : Lib.BuilderAtF 66 5 B b p bs w) (hk : KB F0 w w') : Lib.BuilderAtF 66 5 B b p bs w' := by
  obtain ⟨hB, v, hb, ⟨h1, h2⟩, hne⟩ := h
  refine ⟨hB, v, hk.heap (fun x => x) hb, ⟨h1, ?_⟩, hne⟩
  rcases h2 with h2 | ⟨g, cap, cur, fz, hv, hg, hh, r⟩
  · exact Or.inl h2
  · exact Or.inr ⟨g, cap, cur, fz, hv, hg, hk.heap (fun x => x) hh, r⟩
theorem BU.kb {w w' : World} {B b : Nat} {s : ByteArray} (h : BU w B b s) (hk : KB F0 w w') : BU w' B b s := by
  rcases h with h | h
  · exact Or.inl (builderAt_kb h hk)
  · exact Or.inr (builderAt_kb h hk)
theorem cells_app (s x : ByteArray) : Lib.strCells s ++ Lib.strCells x = Lib.strCells (s ++ x) := by
  rw [Lib.strCells_eq, Lib.strCells_eq, Lib.strCells_eq, ByteArray.data_append, Array.toList_append, Lib.byteCells_append]
theorem bu_new (w : World) {B : Nat} (hB : B ≤ w.heap.size) : BU (w.alloc (.cells #[.pointer none, .slice none 0 0] 66)) B w.heap.size ByteArray.empty := by
  refine Or.inl ⟨hB, .slice none 0 0, alloc_new _ _, World.ownsRowF_of (World.ownsRow_nil _ _ _ _), fun h => by cases h⟩
theorem ws_any (B b : Nat) (s x : ByteArray) (w : World) (h : BU w B b s) (hs : s.size + x.size ≤ 100000000000) (hB : B ≤ w.heap.size) :
    Calls Tryz.prog 38 #[.pointer (some ⟨b, 0, none⟩), .string x] w fun e w' => e = .returned (.tuple #[.int .i64 x.size, .nilIface]) ∧ (BU w' B b (s ++ x) ∧ Below B w w' ∧ Lib.OthersKept 5 (some b) w w') := by
  refine (wstr_any B b _ x w h (by rw [Lib.strCells_length]; omega) hB).mono ?_
  rintro e w' ⟨rfl, h1, h2⟩
  refine ⟨rfl, Or.inr ?_, h2⟩
  rw [← cells_app]
  exact h1
theorem str_any (B b : Nat) (s : ByteArray) (w : World) (h : BU w B b s) (hB : B ≤ w.heap.size) :
    Calls Tryz.prog 39 #[.pointer (some ⟨b, 0, none⟩)] w fun e w' => e = .returned (.string s) ∧ Below B w w' := by
  refine (Tryz.Builder_String_any_f B b s.data.toList w h hB).mono ?_
  rintro e w' ⟨rfl, h1, h2⟩
  exact ⟨by simp, h2⟩
/-- What a call leaves that writes only above B. -/
theorem kb_below {w0 w w' : World} (h : KB F0 w0 w) (hb : Below w0.heap.size w w') : KB F0 w0 w' :=
  ⟨hb.os.trans h.os, hb.tape.trans h.tape, hb.output.trans h.output, Nat.le_trans h.size hb.size, fun k hk hn => (hb.block k hk).trans (h.block k hk hn)⟩
end Go.Proofs.YtoophdcagpfmpaaGreatDoor

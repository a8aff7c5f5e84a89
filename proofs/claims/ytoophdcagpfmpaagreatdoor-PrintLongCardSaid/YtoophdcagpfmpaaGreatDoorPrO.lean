/- print: a node's lines. -/
import Derived.Test.YtoophdcagpfmpaaGreatDoorPrN
namespace Go.Proofs.YtoophdcagpfmpaaGreatDoor
open Go.RowKit

/-- New lines, as an own slice. -/
def LnEnd (w : World) (L : List ByteArray) (e : Ending) (w' : World) : Prop := ∃ v, e = .returned v ∧ w'.ownsRow w.heap.size 9 1 v L.length (L.map Value.string) ∧ KB F0 w w'
def rootOk (k : Nat) : Bool := decide (k = 1) || decide (k = 2) || decide (k = 4) || isStmtB k
theorem lines_len {ts : List Nd} (h : TOk ts) : (linesN ts).length ≤ 2 * ts.length := by
  have h0 := h.good.1
  have hw := wt1_pos h.good h0
  unfold linesN
  split
  · have hc := catK_len (g := fun i => if i < (ts.getD 0 nd0).l.length then St5 ts (kid (ts.getD 0 nd0) i) 0 ByteArray.empty else []) (w := wK ts (ts.getD 0 nd0)) (k := (ts.getD 0 nd0).l.length) (fun i hi => by
      have hk := h.kid h0 hi
      rw [if_pos hi, wK_at hi]
      exact St_len h hk.2.1 _ _)
    have := wK_sum h.good h0 (ts.getD 0 nd0).l.length
    omega
  · have := St_len h h0 0 ByteArray.empty
    omega
theorem own_low {w : World} {B B' : Nat} {e : TypeId} {size : Nat} {v : Value} {n : Nat} {xs : List Value} (h : w.ownsRow B e size v n xs) (hb : B' ≤ B) : w.ownsRow B' e size v n xs := own_base h hb
set_option maxRecDepth 100000 in
set_option maxHeartbeats 8000000 in
theorem lines_any (ts : List Nd) (h : TOk ts) (hok : ∀ x ∈ ts, NdOk x) (a : Option Addr) (cap : Nat) (w : World) (hts : NodesAt w a ts) (hT : PT w) (hr : rootOk (ts.getD 0 nd0).k = true) :
    Calls Tryz.prog 37 #[.slice a ts.length cap, .int .i64 0] w (LnEnd w (linesN ts)) := by
  obtain ⟨w0, rfl⟩ : ∃ w0, w0 = w := ⟨_, rfl⟩
  have h0 := h.good.1
  have hlen := h.len
  have hw0 := wt1_pos h.good h0
  obtain ⟨R, hR⟩ : ∃ R, R = linesN ts := ⟨_, rfl⟩
  rw [← hR]
  unfold linesN at hR
  obtain ⟨sv, hsv⟩ : ∃ sv, sv = Value.slice a ts.length cap := ⟨_, rfl⟩
  obtain ⟨W1, hW1⟩ : ∃ W1, W1 = w0.alloc (.cells #[sv, .slice none 0 0, .int .i64 0] 96) := ⟨_, rfl⟩
  have k1 : KB F0 w0 W1 := by rw [hW1]; exact (KB.refl _ _).alloc _
  have hp1 : Pg W1 w0.heap.size sv (.slice none 0 0) [] ((0 : Nat) : Int) := ⟨by rw [hW1]; exact alloc_new _ _, World.ownsRow_nil _ _ _ _⟩
  have ST : ∀ q, q < ts.length → StmtAt ts a cap w0 w0.heap.size q := fun q hq => stmt_any ts h hok a cap w0 w0.heap.size (Nat.le_refl _) hts hT hq
  have hpto : ∀ (W : World) (vk : Value), PgTo W1 W w0.heap.size (.slice none 0 0) vk → KB F0 w0 W := fun _ _ ht => ht.base hp1 k1 (Nat.le_refl _)
  have hkids : (ts.getD 0 nd0).k = 1 → ∀ i, i < (ts.getD 0 nd0).l.length → ∃ q : Nat, (ts.getD 0 nd0).l.getD i 0 = (q : Int) ∧ (fun i => if i < (ts.getD 0 nd0).l.length then St5 ts (kid (ts.getD 0 nd0) i) 0 ByteArray.empty else []) i = St5 ts q 0 (blB 0) ∧ (St5 ts q 0 (blB 0)).length ≤ 2 * wK ts (ts.getD 0 nd0) i ∧ wt1 ts q = wK ts (ts.getD 0 nd0) i ∧
      ∀ (w : World) (v : Value) (out : List ByteArray), Pg w w0.heap.size sv v out ((0 : Nat) : Int) → KB F0 w0 w → out.length + 2 * wt1 ts q ≤ 1000000 → Calls Tryz.prog 68 #[.pointer (some ⟨w0.heap.size, 0, none⟩), .int .i64 q] w (PgEnd w w0.heap.size sv v (out ++ St5 ts q 0 (blB 0)) ((0 : Nat) : Int)) := fun e i hi => by
    have e2 := h.kid h0 hi
    refine ⟨_, e2.2.2, if_pos hi, by rw [wK_at hi]; exact St_len h e2.2.1 _ _, (wK_at hi).symm, fun w v out h1 h2 h3 => ?_⟩
    rw [hsv] at h1 ⊢
    exact ST _ e2.2.1 w v out 0 (Or.inr (h.file h0 e i hi)) h1 h2 (Nat.zero_le _) h3
  have hone : (ts.getD 0 nd0).k ≠ 1 → Calls Tryz.prog 68 #[.pointer (some ⟨w0.heap.size, 0, none⟩), .int .i64 0] W1 (PgEnd W1 w0.heap.size sv (.slice none 0 0) (St5 ts 0 0 (blB 0)) ((0 : Nat) : Int)) := fun e => by
    have hks : isStmtB (ts.getD 0 nd0).k = true ∨ (ts.getD 0 nd0).k = 2 ∨ (ts.getD 0 nd0).k = 4 := by
      unfold rootOk at hr
      simp only [Bool.or_eq_true, decide_eq_true_eq] at hr
      rcases hr with ((h1 | h1) | h1) | h1
      · exact absurd h1 e
      · exact Or.inr (Or.inl h1)
      · exact Or.inr (Or.inr h1)
      · exact Or.inl h1
    have := ST 0 h0 W1 (.slice none 0 0) [] 0 hks (by rw [← hsv]; exact hp1) k1 (Nat.le_refl _) (by simp; omega)
    rw [← hsv, List.nil_append] at this
    exact this
  have hws := fun k => wK_sum h.good h0 k
  have hwl := hw0.2
  obtain ⟨b, off, rfl, hx⟩ := hts 0 h0
  obtain ⟨la, lc, hl4, hints, hlc, hlm⟩ := hx.l
  unfold maxLen at hlm
  clear ST hts hT hr hok
  generalize hG : (fun i => if i < (ts.getD 0 nd0).l.length then St5 ts (kid (ts.getD 0 nd0) i) 0 ByteArray.empty else []) = G at hR hkids
  generalize hWK : wK ts (ts.getD 0 nd0) = WK at hkids hws
  have ck := k1.cell (p := ⟨b, off + 0 * 5, none⟩) (fun x => x) hx.k
  rw [Nat.zero_mul, Nat.add_zero] at ck
  have cl := k1.cell (p := ⟨b, off + 0 * 5 + 4, none⟩) (fun x => x) hl4
  rw [Nat.zero_mul, Nat.add_zero] at cl
  generalize (ts.getD 0 nd0).k = K at hR hkids hone ck
  generalize (ts.getD 0 nd0).l = l at hR hkids hints cl hlc
  obtain ⟨M, hM⟩ : ∃ M, M = l.length := ⟨_, rfl⟩
  rw [← hM] at hR hkids cl hlc
  have HI := Lib.hid (fun i (hi : i < M) => hints i (by rw [← hM]; exact hi))
  have HKD := Lib.hid hkids
  have HON := Lib.hid hone
  have HR := Lib.hid hR
  have HTO := Lib.hid hpto
  have HP1 := Lib.hid hp1
  have HW := Lib.hid hW1
  have HWS := Lib.hid (And.intro hws (And.intro hwl hlen))
  generalize ts.length = N at h0 hsv hwl ⊢
  have h0i : (0 : Int) < (N : Int) := by omega
  rw [hW1] at ck cl
  rw [hsv] at ck cl
  have HSV := Lib.hid hsv
  have hW2 : W1 = w0.alloc (.cells #[.slice (some ⟨b, off, none⟩) N cap, .slice none 0 0, .int .i64 0] 96) := by rw [hW1, hsv]
  have HW2 := Lib.hid hW2
  clear hx hl4 hints hkids hone hR hpto hp1 hW1 hws hwl hw0 hlen hG hWK hM h hsv hW2 HW
  by_cases hK : K = 1
  · have t1 : ((K : Int) != 1) = false := by rw [hK]; rfl
    have HE : Hid (R = catK G M) := Lib.hid (by rw [HR.out, if_pos hK])
    have HKD2 := Lib.hid (HKD.out hK)
    clear hK HKD HON HR
    go_enter Tryz.func37, Tryz.ntmps37
    go_wp2_with fail
    rw [← HW2.out]
    clear ck cl
    have H0 : Hid (∃ vk, Pg W1 w0.heap.size sv vk (catK G 0) ((0 : Nat) : Int) ∧ PgTo W1 W1 w0.heap.size (.slice none 0 0) vk) := Lib.hid ⟨_, HP1.out, PgTo.of (KB.refl _ _)⟩
    go_loopw [30] (fun kv wr => ∃ k : Nat, k ≤ M ∧ kv = .int .i64 (k : Nat) ∧ Hid (∃ vk, Pg wr w0.heap.size sv vk (catK G k) ((0 : Nat) : Int) ∧ PgTo W1 wr w0.heap.size (.slice none 0 0) vk)) (fun kv _ => M - (intOf kv).toNat)
    case atStart => exact ⟨0, by omega, rfl, H0⟩
    case round =>
      obtain ⟨k, hk, rfl, hst⟩ := hrel
      clear H0
      by_cases hlt : k < M
      · have hkM : (k : Int) < (M : Int) := by omega
        obtain ⟨vk, hpk, htk⟩ := hst.out
        have hbb := HTO.out _ _ htk
        obtain ⟨lb, lo, rfl, hc0⟩ := HI.out k hlt
        obtain ⟨q, hq, hGk, hlq, hwq, hS⟩ := HKD2.out k hlt
        rw [hq] at hc0
        have hc1 := hbb.cell (p := ⟨lb, lo + k, none⟩) (fun x => x) hc0
        have hcl : (catK G k).length ≤ 2 * sumK WK k := catK_len (fun i hi => by
          obtain ⟨q2, -, h3, h4, -⟩ := HKD2.out i (by omega)
          rw [h3]; exact h4)
        have hS := hS wr vk (catK G k) hpk hbb (by
          have h1 := HWS.out.1 (k + 1)
          have h2 : sumK WK (k + 1) = sumK WK k + WK k := rfl
          have h3 := HWS.out.2
          omega)
        rw [← hGk, show catK G k ++ G k = catK G (k + 1) from rfl] at hS
        have HS := Lib.hid hS
        have HT := Lib.hid htk
        clear hS hpk htk hbb hc0 hq hGk hlq hwq hcl hst
        go_wp2_with fail
        refine HS.out.mono ?_
        rintro e w3 ⟨rfl, v3, hp3, ht3⟩
        have H3 : Hid (∃ vk, Pg w3 w0.heap.size sv vk (catK G (k + 1)) ((0 : Nat) : Int) ∧ PgTo W1 w3 w0.heap.size (.slice none 0 0) vk) := Lib.hid ⟨v3, hp3, HT.out.trans ht3⟩
        clear hp3 ht3 HS HT hc1
        go_wp2_with fail
        go_roundw
        case rel => exact ⟨k + 1, by omega, by go_num, H3⟩
        case measure => simp [intOf]; omega
      · obtain rfl : k = M := by omega
        obtain ⟨vk, hpk, htk⟩ := hst.out
        have c1 := blk_cell hpk.blk 1
        have H3 := Lib.hid (And.intro hpk (HTO.out _ _ htk))
        clear hpk htk hst
        go_wp2_with fail
        go_ret
        refine ⟨_, rfl, ?_, H3.out.2⟩
        rw [HE.out]
        exact own_base H3.out.1.own (Nat.le_succ _)
  · have t1 : ((K : Int) != 1) = true := by simp; omega
    have HE : Hid (R = St5 ts 0 0 (blB 0)) := Lib.hid (by rw [HR.out, if_neg hK]; rfl)
    have HO2 := Lib.hid (HON.out hK)
    clear hK HKD HON HR
    go_enter Tryz.func37, Tryz.ntmps37
    go_wp2_with fail
    rw [← HW2.out]
    clear ck cl
    refine HO2.out.mono ?_
    rintro e w3 ⟨rfl, v3, hp3, ht3⟩
    have c1 := blk_cell hp3.blk 1
    have H3 := Lib.hid (And.intro hp3 (HTO.out _ _ ht3))
    clear hp3 ht3 HO2
    go_wp2_with fail
    go_ret
    refine ⟨_, rfl, ?_, H3.out.2⟩
    rw [HE.out]
    exact own_base H3.out.1.own (Nat.le_succ _)
end Go.Proofs.YtoophdcagpfmpaaGreatDoor

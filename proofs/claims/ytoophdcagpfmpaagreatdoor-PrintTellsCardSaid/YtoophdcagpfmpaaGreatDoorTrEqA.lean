/- loanwordref03.Equal. -/
import Derived.Test.YtoophdcagpfmpaaGreatDoorMg28
import Derived.BigRegion
namespace Go.Proofs.YtoophdcagpfmpaaGreatDoor
open Go.RowKit

theorem bytes_inj2 {a b : ByteArray} (h : a.toList = b.toList) : a = b := by
  rw [ByteArray.toList_eq, ByteArray.toList_eq] at h
  exact Go.WideShapes.bytes_inj h
/-- Two nodes, but for At. -/
def eqNd (x y : Nd) : Bool := decide (x.k = y.k) && decide (x.n = y.n) && decide (x.s = y.s) && decide (x.l = y.l)
def eqP (p : Bool) (x y : Nd) : Bool := eqNd x y && (!p || decide (x.at_ = y.at_))
def eqT (p : Bool) (a b : List Nd) : Bool := decide (a.length = b.length) && (List.range a.length).all (fun i => eqP p (a.getD i nd0) (b.getD i nd0))
theorem eqT_step {p : Bool} {a b : List Nd} (h : a.length = b.length) (hall : ∀ i, i < a.length → eqP p (a.getD i nd0) (b.getD i nd0) = true) : eqT p a b = true := by
  unfold eqT
  rw [decide_eq_true h, Bool.true_and, List.all_eq_true]
  intro i hi
  exact hall i (List.mem_range.1 hi)
theorem eqT_fail {p : Bool} {a b : List Nd} {i : Nat} (hi : i < a.length) (hf : eqP p (a.getD i nd0) (b.getD i nd0) = false) : eqT p a b = false := by
  unfold eqT
  rw [Bool.and_eq_false_iff]
  right
  rw [List.all_eq_false]
  exact ⟨i, List.mem_range.2 hi, by rw [hf]; decide⟩
theorem eqT_len {p : Bool} {a b : List Nd} (h : a.length ≠ b.length) : eqT p a b = false := by
  unfold eqT
  rw [decide_eq_false h, Bool.false_and]
theorem share {G Q : Prop} (h : G) (k : G → Q) : Q := k h
theorem eqP_false_of {p : Bool} {x y : Nd} (h : ¬ (x.k = y.k ∧ x.n = y.n ∧ x.s = y.s ∧ x.l = y.l ∧ (p = true → x.at_ = y.at_))) : eqP p x y = false := by
  rw [Bool.eq_false_iff]
  intro e
  apply h
  unfold eqP eqNd at e
  simp only [Bool.and_eq_true, decide_eq_true_eq, Bool.or_eq_true, Bool.not_eq_true'] at e
  obtain ⟨⟨⟨⟨h1, h2⟩, h3⟩, h4⟩, h5⟩ := e
  exact ⟨h1, h2, h3, h4, fun hp => by rcases h5 with h5 | h5; rw [hp] at h5; cases h5; exact h5⟩
theorem eqP_true_of {p : Bool} {x y : Nd} (h1 : x.k = y.k) (h2 : x.n = y.n) (h3 : x.s = y.s) (h4 : x.l = y.l) (h5 : p = true → x.at_ = y.at_) : eqP p x y = true := by
  unfold eqP eqNd
  simp only [Bool.and_eq_true, decide_eq_true_eq, Bool.or_eq_true, Bool.not_eq_true']
  refine ⟨⟨⟨⟨h1, h2⟩, h3⟩, h4⟩, ?_⟩
  cases p with
  | false => exact .inl rfl
  | true => exact .inr (h5 rfl)
set_option maxRecDepth 100000 in
set_option maxHeartbeats 8000000 in
theorem cequal_any (ts us : List Nd) (p : Bool) (hl : ts.length < 100000000) (hok : ∀ x ∈ ts, NdOk x) (hok2 : ∀ x ∈ us, NdOk x) (a b : Option Addr) (c d : Nat) (w : World) (h1 : NodesAt w a ts) (h2 : NodesAt w b us) :
    Calls Tryz.prog 22 #[.agg #[.slice a ts.length c], .agg #[.slice b us.length d], .bool p] w fun e w' => e = .returned (.bool (eqT p ts us)) ∧ KB F0 w w' := by
  obtain ⟨w0, rfl⟩ : ∃ w0, w0 = w := ⟨_, rfl⟩
  obtain ⟨r, hr⟩ : ∃ r, r = eqT p ts us := ⟨_, rfl⟩
  rw [← hr]
  have Hr := Lib.hid hr
  clear hr
  by_cases hn : ts.length = us.length
  · rw [← hn]
    obtain ⟨N, hN⟩ : ∃ N, N = ts.length := ⟨_, rfl⟩
    have Hstep := Lib.hid (fun hall => eqT_step (p := p) (a := ts) (b := us) hn hall)
    have Hfail := Lib.hid (fun i hi hf => eqT_fail (p := p) (a := ts) (b := us) (i := i) hi hf)
    rw [← hN] at hl Hstep Hfail ⊢
    have HN := Lib.hid hN
    have HN2 : Hid (N = us.length) := Lib.hid (by rw [hN, hn])
    have HTS := Lib.hid (And.intro h1 (And.intro h2 (And.intro hok hok2)))
    obtain ⟨W1, hW1⟩ : ∃ W1, W1 = ((w0.alloc (.cells #[.slice a N c] 24)).alloc (.cells #[.slice b N d] 24)) := ⟨_, rfl⟩
    have k1 : KB F0 w0 W1 := by rw [hW1]; exact ((KB.refl _ _).alloc _).alloc _
    have hs0 : (w0.alloc (.cells #[.slice a N c] 24)).heap.size = w0.heap.size + 1 := by simp
    have b0 : W1.cell? ⟨w0.heap.size, 0, none⟩ = some (.slice a N c) := by
      rw [hW1]; exact ((KB.refl F0 _).alloc _).cell (p := ⟨w0.heap.size, 0, none⟩) (fun x => x) (new_cell _ _ _ 0)
    have b1 : W1.cell? ⟨w0.heap.size + 1, 0, none⟩ = some (.slice b N d) := by
      rw [hW1, ← hs0]; exact new_cell _ _ _ 0
    have HW1 := Lib.hid hW1
    have H1 := Lib.hid (And.intro k1 (And.intro b0 b1))
    clear hN hn h1 h2 hok hok2 hs0 k1 hW1
    go_enter Tryz.func22, Tryz.ntmps22
    rw [HW1.out] at b0 b1
    go_wp2_with fail
    rw [← HW1.out]
    clear b0 b1
    go_loopw [7] (fun kv wr => ∃ k : Nat, k ≤ N ∧ kv = .int .i64 k ∧ KB F0 W1 wr ∧ Hid (∀ i, i < k → eqP p (ts.getD i nd0) (us.getD i nd0) = true)) (fun kv _ => N - (intOf kv).toNat)
    case atStart => exact ⟨0, by omega, rfl, KB.refl _ _, Lib.hid (fun i hi => by omega)⟩
    case round =>
      obtain ⟨k, hk, rfl, hkb, hall⟩ := hrel
      have b0 := hkb.cell (p := ⟨w0.heap.size, 0, none⟩) (fun x => x) H1.out.2.1
      have b1 := hkb.cell (p := ⟨w0.heap.size + 1, 0, none⟩) (fun x => x) H1.out.2.2
      by_cases hlt : k < N
      · obtain ⟨b1', o1, rfl, hx0⟩ := HTS.out.1 k (by rw [← HN.out]; exact hlt)
        obtain ⟨b2', o2, rfl, hy0⟩ := HTS.out.2.1 k (by rw [← HN2.out]; exact hlt)
        have hxo := HTS.out.2.2.1 _ (getD_memN (ts := ts) (k := k) (by rw [← HN.out]; exact hlt))
        have hyo := HTS.out.2.2.2 _ (getD_memN (ts := us) (k := k) (by rw [← HN2.out]; exact hlt))
        have Hf := Lib.hid (Hfail.out k hlt)
        have Hn : Hid (eqP p (ts.getD k nd0) (us.getD k nd0) = true → ∀ i, i < k + 1 → eqP p (ts.getD i nd0) (us.getD i nd0) = true) := Lib.hid (fun h i hi => by
          rcases Nat.lt_or_eq_of_le (Nat.lt_succ_iff.1 hi) with h' | rfl
          · exact hall.out i h'
          · exact h)
        generalize ts.getD k nd0 = x at hx0 hxo Hf Hn
        generalize us.getD k nd0 = y at hy0 hyo Hf Hn
        have hkk := H1.out.1.trans hkb
        have hx := hx0.kbF hkk
        have hy := hy0.kbF hkk
        obtain ⟨la, lc, hl4, hi1, hlc, hlm⟩ := hx.l
        obtain ⟨lb, ld, hm4, hi2, hld, hlm2⟩ := hy.l
        have c0 := hx.k
        have c1 := hx.at_
        have c2 := hx.n
        have c3 := hx.s
        have e0 := hy.k
        have e1 := hy.at_
        have e2 := hy.n
        have e3 := hy.s
        unfold maxLen at hlm hlm2
        obtain ⟨M, hM⟩ : ∃ M, M = x.l.length := ⟨_, rfl⟩
        obtain ⟨M2, hM2⟩ : ∃ M2, M2 = y.l.length := ⟨_, rfl⟩
        rw [← hM] at hl4 hlc
        rw [← hM2] at hm4 hld
        have HK := Lib.hid (And.intro hkb (And.intro hi1 (And.intro hi2 (And.intro hM hM2))))
        have hkN : (k : Int) < (N : Int) := by omega
        have z0 : w0.heap.size < wr.heap.size := heap_ltc b0
        have z1 : w0.heap.size + 1 < wr.heap.size := heap_ltc b1
        have z2 : b1' < wr.heap.size := heap_ltc c0
        have z3 : b2' < wr.heap.size := heap_ltc e0
        clear hx0 hy0 hx hy hi1 hi2 hkb hall hkk hM hM2
        go_wp2_with fail
        refine share (G := ?G) ?cont ?main
        case main =>
          intro key
          go_region
          · obtain ⟨Wz, hWz⟩ : ∃ Wz, Wz = ((wr.alloc (.cells #[.int .u8 (x.k : Nat), .int .i64 x.at_, .int .i64 x.n, .string x.s, .slice la M lc] 44)).alloc (.cells #[.int .u8 (y.k : Nat), .int .i64 y.at_, .int .i64 y.n, .string y.s, .slice lb M2 ld] 44)).drew := ⟨_, rfl⟩
            rw [← hWz]
            have kz : KB F0 wr Wz := by rw [hWz]; exact (((KB.refl _ _).alloc _).alloc _).drew
            have e1 : (wr.alloc (.cells #[.int .u8 (x.k : Nat), .int .i64 x.at_, .int .i64 x.n, .string x.s, .slice la M lc] 44)).heap.size = wr.heap.size + 1 := by simp
            have hX : Wz.heap[wr.heap.size]? = some (.cells #[.int .u8 (x.k : Nat), .int .i64 x.at_, .int .i64 x.n, .string x.s, .slice la M lc] 44) := by
              rw [hWz]; exact ((KB.refl F0 _).alloc _).heap (fun x => x) (alloc_new _ _)
            have hY : Wz.heap[wr.heap.size + 1]? = some (.cells #[.int .u8 (y.k : Nat), .int .i64 y.at_, .int .i64 y.n, .string y.s, .slice lb M2 ld] 44) := by
              rw [hWz, ← e1]; exact alloc_new _ _
            clear hWz e1
            obtain ⟨X8, hX8⟩ : ∃ X8, X8 = wr.heap.size := ⟨_, rfl⟩
            obtain ⟨X9, hX9⟩ : ∃ X9, X9 = wr.heap.size + 1 := ⟨_, rfl⟩
            rw [← hX9] at hY ⊢
            rw [← hX8] at hX ⊢
            clear hX8 hX9
            revert hY
            revert hX
            revert kz
            revert Wz
            revert X9
            revert X8
            exact key
          · obtain ⟨Wz, hWz⟩ : ∃ Wz, Wz = ((wr.alloc (.cells #[.int .u8 (y.k : Nat), .int .i64 y.at_, .int .i64 y.n, .string y.s, .slice lb M2 ld] 44)).alloc (.cells #[.int .u8 (x.k : Nat), .int .i64 x.at_, .int .i64 x.n, .string x.s, .slice la M lc] 44)).drew := ⟨_, rfl⟩
            rw [← hWz]
            have kz : KB F0 wr Wz := by rw [hWz]; exact (((KB.refl _ _).alloc _).alloc _).drew
            have e1 : (wr.alloc (.cells #[.int .u8 (y.k : Nat), .int .i64 y.at_, .int .i64 y.n, .string y.s, .slice lb M2 ld] 44)).heap.size = wr.heap.size + 1 := by simp
            have hY : Wz.heap[wr.heap.size]? = some (.cells #[.int .u8 (y.k : Nat), .int .i64 y.at_, .int .i64 y.n, .string y.s, .slice lb M2 ld] 44) := by
              rw [hWz]; exact ((KB.refl F0 _).alloc _).heap (fun x => x) (alloc_new _ _)
            have hX : Wz.heap[wr.heap.size + 1]? = some (.cells #[.int .u8 (x.k : Nat), .int .i64 x.at_, .int .i64 x.n, .string x.s, .slice la M lc] 44) := by
              rw [hWz, ← e1]; exact alloc_new _ _
            clear hWz e1
            obtain ⟨X8, hX8⟩ : ∃ X8, X8 = wr.heap.size + 1 := ⟨_, rfl⟩
            obtain ⟨X9, hX9⟩ : ∃ X9, X9 = wr.heap.size := ⟨_, rfl⟩
            rw [← hX8] at hX ⊢
            rw [← hX9] at hY ⊢
            clear hX8 hX9
            revert hY
            revert hX
            revert kz
            revert Wz
            revert X9
            revert X8
            exact key
        case cont =>
          intro X8 X9 Wz kz hX hY
          have x0 : Wz.cell? ⟨X8, 0, none⟩ = some (.int .u8 (x.k : Nat)) := blk_cell hX 0
          have x1 : Wz.cell? ⟨X8, 1, none⟩ = some (.int .i64 x.at_) := blk_cell hX 1
          have x2 : Wz.cell? ⟨X8, 2, none⟩ = some (.int .i64 x.n) := blk_cell hX 2
          have x3 : Wz.cell? ⟨X8, 3, none⟩ = some (.string x.s) := blk_cell hX 3
          have x4 : Wz.cell? ⟨X8, 4, none⟩ = some (.slice la M lc) := blk_cell hX 4
          have y0 : Wz.cell? ⟨X9, 0, none⟩ = some (.int .u8 (y.k : Nat)) := blk_cell hY 0
          have y1 : Wz.cell? ⟨X9, 1, none⟩ = some (.int .i64 y.at_) := blk_cell hY 1
          have y2 : Wz.cell? ⟨X9, 2, none⟩ = some (.int .i64 y.n) := blk_cell hY 2
          have y3 : Wz.cell? ⟨X9, 3, none⟩ = some (.string y.s) := blk_cell hY 3
          have y4 : Wz.cell? ⟨X9, 4, none⟩ = some (.slice lb M2 ld) := blk_cell hY 4
          have Kz := Lib.hid kz
          have HXY := Lib.hid (And.intro hX hY)
          clear kz hX hY hl4 hm4 c0 c1 c2 c3 e0 e1 e2 e3 b0 b1 z0 z1 z2 z3
          by_cases q1 : x.k = y.k
          case neg =>
            have hf := Lib.hid (Hf.out (eqP_false_of (fun h => q1 h.1)))
            have d1 : ((x.k : Int) != (y.k : Int)) = true := by simp; omega
            have d2 : ((x.k : Int) == (y.k : Int)) = false := by simp; omega
            go_wp2
            go_ret
            exact ⟨ret_eq (by rw [Hr.out, hf.out]; rfl), (H1.out.1.trans HK.out.1).trans Kz.out⟩
          have p1 : ((x.k : Int) != (y.k : Int)) = false := by simp; omega
          have p1' : ((x.k : Int) == (y.k : Int)) = true := by simp; omega
          by_cases q2 : x.n = y.n
          case neg =>
            have hf := Lib.hid (Hf.out (eqP_false_of (fun h => q2 h.2.1)))
            have d1 : (x.n != y.n) = true := by simpa using q2
            have d2 : (x.n == y.n) = false := by simpa using q2
            go_wp2
            go_ret
            exact ⟨ret_eq (by rw [Hr.out, hf.out]; rfl), (H1.out.1.trans HK.out.1).trans Kz.out⟩
          have p2 : (x.n != y.n) = false := by simpa using q2
          have p2' : (x.n == y.n) = true := by simpa using q2
          by_cases q3 : x.s = y.s
          case neg =>
            have hf := Lib.hid (Hf.out (eqP_false_of (fun h => q3 h.2.2.1)))
            have d2 : ¬ x.s.toList = y.s.toList := fun e => q3 (bytes_inj2 e)
            have d1 : (x.s.toList == y.s.toList) = false := by simpa using d2
            go_wp2
            go_ret
            exact ⟨ret_eq (by rw [Hr.out, hf.out]; rfl), (H1.out.1.trans HK.out.1).trans Kz.out⟩
          have p3 : (x.s.toList == y.s.toList) = true := by rw [q3]; simp
          have p3' : x.s.toList = y.s.toList := by rw [q3]
          by_cases q4 : p = true ∧ x.at_ ≠ y.at_
          case pos =>
            obtain ⟨rfl, q4⟩ := q4
            have hf := Lib.hid (Hf.out (eqP_false_of (fun h => q4 (h.2.2.2.2 rfl))))
            have d1 : (x.at_ != y.at_) = true := by simpa using q4
            have d2 : (x.at_ == y.at_) = false := by simpa using q4
            go_wp2
            go_ret
            exact ⟨ret_eq (by rw [Hr.out, hf.out]; rfl), (H1.out.1.trans HK.out.1).trans Kz.out⟩
          have hat : Hid (p = true → x.at_ = y.at_) := Lib.hid (fun h => Classical.byContradiction fun e => q4 ⟨h, e⟩)
          by_cases q5 : M = M2
          case neg =>
            have hf := Lib.hid (Hf.out (eqP_false_of (fun h => q5 (by rw [HK.out.2.2.2.1, HK.out.2.2.2.2, h.2.2.2.1]))))
            have d1 : ((M : Int) != (M2 : Int)) = true := by simp; omega
            have d2 : ((M : Int) == (M2 : Int)) = false := by simp; omega
            cases p
            case false =>
              go_wp2
              go_ret
              exact ⟨ret_eq (by rw [Hr.out, hf.out]; rfl), (H1.out.1.trans HK.out.1).trans Kz.out⟩
            case true =>
              have p4 : (x.at_ != y.at_) = false := by simpa using hat.out rfl
              have p4' : (x.at_ == y.at_) = true := by simpa using hat.out rfl
              go_wp2
              go_ret
              exact ⟨ret_eq (by rw [Hr.out, hf.out]; rfl), (H1.out.1.trans HK.out.1).trans Kz.out⟩
          subst q5
          have hgo : Hid (∀ (Q : Prop), (∀ i, i < M → x.l.getD i 0 = y.l.getD i 0) → x.l = y.l) := Lib.hid (fun _ h => by
            have h1 := HK.out.2.2.2.1
            have h2 := HK.out.2.2.2.2
            refine List.ext_getElem (by omega) (fun i a1 a2 => ?_)
            have := h i (by omega)
            rwa [List.getD_eq_getElem?_getD, List.getD_eq_getElem?_getD, List.getElem?_eq_getElem a1, List.getElem?_eq_getElem a2] at this)
          have Hxo := Lib.hid (And.intro hxo hyo)
          have Q1 := Lib.hid (And.intro q1 (And.intro q2 q3))
          clear hxo hyo q1 q2 q3 q4
          cases p
          case false =>
            go_wp2_with fail
            clear x0 x1 x2 x3 y0 y1 y2 y3 p1 p1' p2 p2' p3 p3'
            go_loopw [10] (fun jv wr2 => ∃ j : Nat, j ≤ M ∧ jv = .int .i64 j ∧ KB F0 Wz wr2 ∧ Hid (∀ i, i < j → x.l.getD i 0 = y.l.getD i 0)) (fun jv _ => M - (intOf jv).toNat)
            case atStart => exact ⟨0, by omega, rfl, KB.refl _ _, Lib.hid (fun i hi => by omega)⟩
            case round =>
              obtain ⟨j, hj, rfl, hkb, hall⟩ := hrel
              have x4 := hkb.cell (p := ⟨X8, 4, none⟩) (fun x => x) x4
              have y4 := hkb.cell (p := ⟨X9, 4, none⟩) (fun x => x) y4
              have K2 := Lib.hid (Kz.out.trans hkb)
              have K3 := Lib.hid hkb
              clear hkb
              by_cases hjt : j < M
              · have hj1 : j < x.l.length := by rw [← HK.out.2.2.2.1]; exact hjt
                have hj2 : j < y.l.length := by rw [← HK.out.2.2.2.2]; exact hjt
                obtain ⟨xb, xo, rfl, hcx⟩ := HK.out.2.1 j hj1
                obtain ⟨yb, yo, rfl, hcy⟩ := HK.out.2.2.1 j hj2
                have hcx := K2.out.cell (p := ⟨xb, xo + j, none⟩) (fun x => x) hcx
                have hcy := K2.out.cell (p := ⟨yb, yo + j, none⟩) (fun x => x) hcy
                have hbx := Hxo.out.1.l _ (getD_memI hj1)
                have hby := Hxo.out.2.l _ (getD_memI hj2)
                have hnx : Hid (x.l.getD j 0 = y.l.getD j 0 → ∀ i, i < j + 1 → x.l.getD i 0 = y.l.getD i 0) := Lib.hid (fun h i hi => by
                  rcases Nat.lt_or_eq_of_le (Nat.lt_succ_iff.1 hi) with h' | rfl
                  · exact hall.out i h'
                  · exact h)
                have hfx : Hid (x.l.getD j 0 ≠ y.l.getD j 0 → x.l ≠ y.l) := Lib.hid (fun h e => h (by rw [e]))
                generalize x.l.getD j 0 = cx at hcx hnx hfx hbx
                generalize y.l.getD j 0 = cy at hcy hnx hfx hby
                by_cases hc : cx = cy
                · have hall2 := Lib.hid (hnx.out hc)
                  have d1 : (cx != cy) = false := by simpa using hc
                  have d2 : (cx == cy) = true := by simpa using hc
                  clear hall hnx hfx
                  go_wp2_with fail
                  refine wp_region_rv 11 GQ (kindV []) (by kernel_rfl) (by kernel_rfl) GQ.trans GQ.refl (GQ.start _) (kindV_mono _) ?_
                  simp only [List.take_succ_cons, List.take_zero, List.drop_succ_cons, List.drop_zero]
                  iterate 11 (refine rv_det (by kernel_rfl) rfl (by intro w hG hH; obtain ⟨n, rfl⟩ := hG; go_simp; first | done | with_reducible rfl) ?_; simp only [Act.put, List.setIfInBounds_toArray, List.set_cons_zero, List.set_cons_succ])
                  refine rv_nil (fun w hG hH => ?_)
                  obtain ⟨n, rfl⟩ := hG
                  clear hH
                  have K4 := Lib.hid (K3.out.drewN n)
                  clear hcx hcy
                  go_wp2
                  go_roundw
                  case rel => exact ⟨j + 1, by omega, by go_num, K4.out, hall2⟩
                  case measure => simp [intOf]; omega
                · have hf := Lib.hid (Hf.out (eqP_false_of (fun h => hfx.out hc h.2.2.2.1)))
                  have d1 : (cx != cy) = true := by simpa using hc
                  have d2 : (cx == cy) = false := by simpa using hc
                  clear hall hnx hfx
                  go_wp2_with fail
                  refine wp_region_rv 11 GQ (kindV []) (by kernel_rfl) (by kernel_rfl) GQ.trans GQ.refl (GQ.start _) (kindV_mono _) ?_
                  simp only [List.take_succ_cons, List.take_zero, List.drop_succ_cons, List.drop_zero]
                  iterate 11 (refine rv_det (by kernel_rfl) rfl (by intro w hG hH; obtain ⟨n, rfl⟩ := hG; go_simp; first | done | with_reducible rfl) ?_; simp only [Act.put, List.setIfInBounds_toArray, List.set_cons_zero, List.set_cons_succ])
                  refine rv_nil (fun w hG hH => ?_)
                  obtain ⟨n, rfl⟩ := hG
                  clear hH
                  have K4 := Lib.hid ((H1.out.1.trans HK.out.1).trans (K2.out.drewN n))
                  clear hcx hcy
                  go_wp2
                  go_ret
                  exact ⟨ret_eq (by rw [Hr.out, hf.out]; rfl), K4.out⟩
              · obtain rfl : j = M := by omega
                have hN2 := Lib.hid (Hn.out (eqP_true_of Q1.out.1 Q1.out.2.1 Q1.out.2.2 (hgo.out True hall.out) (by first | exact hat.out | exact fun _ => hat.out trivial | exact fun h => by cases h)))
                have K4 := Lib.hid (HK.out.1.trans K2.out)
                clear hall
                go_wp2
                go_roundw
                case rel => exact ⟨k + 1, by omega, by go_num, K4.out, hN2⟩
                case measure => simp [intOf]; omega
          case true =>
            have p4 : (x.at_ != y.at_) = false := by simpa using hat.out rfl
            have p4' : (x.at_ == y.at_) = true := by simpa using hat.out rfl
            go_wp2_with fail
            clear x0 x1 x2 x3 y0 y1 y2 y3 p1 p1' p2 p2' p3 p3'
            go_loopw [10] (fun jv wr2 => ∃ j : Nat, j ≤ M ∧ jv = .int .i64 j ∧ KB F0 Wz wr2 ∧ Hid (∀ i, i < j → x.l.getD i 0 = y.l.getD i 0)) (fun jv _ => M - (intOf jv).toNat)
            case atStart => exact ⟨0, by omega, rfl, KB.refl _ _, Lib.hid (fun i hi => by omega)⟩
            case round =>
              obtain ⟨j, hj, rfl, hkb, hall⟩ := hrel
              have x4 := hkb.cell (p := ⟨X8, 4, none⟩) (fun x => x) x4
              have y4 := hkb.cell (p := ⟨X9, 4, none⟩) (fun x => x) y4
              have K2 := Lib.hid (Kz.out.trans hkb)
              have K3 := Lib.hid hkb
              clear hkb
              by_cases hjt : j < M
              · have hj1 : j < x.l.length := by rw [← HK.out.2.2.2.1]; exact hjt
                have hj2 : j < y.l.length := by rw [← HK.out.2.2.2.2]; exact hjt
                obtain ⟨xb, xo, rfl, hcx⟩ := HK.out.2.1 j hj1
                obtain ⟨yb, yo, rfl, hcy⟩ := HK.out.2.2.1 j hj2
                have hcx := K2.out.cell (p := ⟨xb, xo + j, none⟩) (fun x => x) hcx
                have hcy := K2.out.cell (p := ⟨yb, yo + j, none⟩) (fun x => x) hcy
                have hbx := Hxo.out.1.l _ (getD_memI hj1)
                have hby := Hxo.out.2.l _ (getD_memI hj2)
                have hnx : Hid (x.l.getD j 0 = y.l.getD j 0 → ∀ i, i < j + 1 → x.l.getD i 0 = y.l.getD i 0) := Lib.hid (fun h i hi => by
                  rcases Nat.lt_or_eq_of_le (Nat.lt_succ_iff.1 hi) with h' | rfl
                  · exact hall.out i h'
                  · exact h)
                have hfx : Hid (x.l.getD j 0 ≠ y.l.getD j 0 → x.l ≠ y.l) := Lib.hid (fun h e => h (by rw [e]))
                generalize x.l.getD j 0 = cx at hcx hnx hfx hbx
                generalize y.l.getD j 0 = cy at hcy hnx hfx hby
                by_cases hc : cx = cy
                · have hall2 := Lib.hid (hnx.out hc)
                  have d1 : (cx != cy) = false := by simpa using hc
                  have d2 : (cx == cy) = true := by simpa using hc
                  clear hall hnx hfx
                  go_wp2_with fail
                  refine wp_region_rv 11 GQ (kindV []) (by kernel_rfl) (by kernel_rfl) GQ.trans GQ.refl (GQ.start _) (kindV_mono _) ?_
                  simp only [List.take_succ_cons, List.take_zero, List.drop_succ_cons, List.drop_zero]
                  iterate 11 (refine rv_det (by kernel_rfl) rfl (by intro w hG hH; obtain ⟨n, rfl⟩ := hG; go_simp; first | done | with_reducible rfl) ?_; simp only [Act.put, List.setIfInBounds_toArray, List.set_cons_zero, List.set_cons_succ])
                  refine rv_nil (fun w hG hH => ?_)
                  obtain ⟨n, rfl⟩ := hG
                  clear hH
                  have K4 := Lib.hid (K3.out.drewN n)
                  clear hcx hcy
                  go_wp2
                  go_roundw
                  case rel => exact ⟨j + 1, by omega, by go_num, K4.out, hall2⟩
                  case measure => simp [intOf]; omega
                · have hf := Lib.hid (Hf.out (eqP_false_of (fun h => hfx.out hc h.2.2.2.1)))
                  have d1 : (cx != cy) = true := by simpa using hc
                  have d2 : (cx == cy) = false := by simpa using hc
                  clear hall hnx hfx
                  go_wp2_with fail
                  refine wp_region_rv 11 GQ (kindV []) (by kernel_rfl) (by kernel_rfl) GQ.trans GQ.refl (GQ.start _) (kindV_mono _) ?_
                  simp only [List.take_succ_cons, List.take_zero, List.drop_succ_cons, List.drop_zero]
                  iterate 11 (refine rv_det (by kernel_rfl) rfl (by intro w hG hH; obtain ⟨n, rfl⟩ := hG; go_simp; first | done | with_reducible rfl) ?_; simp only [Act.put, List.setIfInBounds_toArray, List.set_cons_zero, List.set_cons_succ])
                  refine rv_nil (fun w hG hH => ?_)
                  obtain ⟨n, rfl⟩ := hG
                  clear hH
                  have K4 := Lib.hid ((H1.out.1.trans HK.out.1).trans (K2.out.drewN n))
                  clear hcx hcy
                  go_wp2
                  go_ret
                  exact ⟨ret_eq (by rw [Hr.out, hf.out]; rfl), K4.out⟩
              · obtain rfl : j = M := by omega
                have hN2 := Lib.hid (Hn.out (eqP_true_of Q1.out.1 Q1.out.2.1 Q1.out.2.2 (hgo.out True hall.out) (by first | exact hat.out | exact fun _ => hat.out trivial | exact fun h => by cases h)))
                have K4 := Lib.hid (HK.out.1.trans K2.out)
                clear hall
                go_wp2
                go_roundw
                case rel => exact ⟨k + 1, by omega, by go_num, K4.out, hN2⟩
                case measure => simp [intOf]; omega
      · obtain rfl : k = N := by omega
        have hr2 : Hid (r = true) := Lib.hid (by rw [Hr.out]; exact Hstep.out hall.out)
        have HK := Lib.hid (H1.out.1.trans hkb)
        clear hall hkb
        go_wp2
        go_ret
        exact ⟨ret_eq (by rw [hr2.out]; rfl), HK.out⟩
  · have hr2 : Hid (r = false) := Lib.hid (by rw [Hr.out]; exact eqT_len hn)
    generalize ts.length = N at *
    generalize us.length = M at *
    have d1 : ((N : Int) != (M : Int)) = true := by simp; omega
    have d2 : ((N : Int) == (M : Int)) = false := by simp; omega
    clear hn h1 h2
    have b0 : ((w0.alloc (.cells #[.slice a N c] 24)).alloc (.cells #[.slice b M d] 24)).cell? ⟨w0.heap.size, 0, none⟩ = some (.slice a N c) := ((KB.refl F0 _).alloc _).cell (p := ⟨w0.heap.size, 0, none⟩) (fun x => x) (new_cell _ _ _ 0)
    have K1 := Lib.hid ((((KB.refl F0 w0).alloc (.cells #[.slice a N c] 24))).alloc (.cells #[.slice b M d] 24))
    go_enter Tryz.func22, Tryz.ntmps22
    go_wp2
    go_ret
    exact ⟨ret_eq (by rw [hr2.out]; rfl), K1.out⟩
end Go.Proofs.YtoophdcagpfmpaaGreatDoor

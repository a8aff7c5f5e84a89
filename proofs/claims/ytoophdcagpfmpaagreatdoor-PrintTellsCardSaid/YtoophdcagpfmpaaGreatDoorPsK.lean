/- loanwordref05.Lines. -/
import Derived.Test.YtoophdcagpfmpaaGreatDoorMg43
namespace Go.Proofs.YtoophdcagpfmpaaGreatDoor
open Go.RowKit

theorem item_pos {ts : List Nd} (h : TOk ts) {n : Nat} (hn : n < ts.length) (hk : (ts.getD n nd0).k = 2 ∨ (ts.getD n nd0).k = 4) (inn : Nat) (P : ByteArray) : 1 ≤ (St5 ts n inn P).length := by
  rcases hk with hk | hk
  · rw [St_eq h.down hn, stN, hk]; exact Nat.le_refl _
  · obtain ⟨k, h1, h2, h3, h4, h5, h6, h7, h8⟩ := h.fn hn hk
    have e2 := h.kid hn (i := (ts.getD n nd0).l.length - 1) (by omega)
    rw [St_fn h hn hk, if_pos (by omega)]
    exact St_pos h e2.2.1 (by rw [h8]; rfl) _ _
theorem catK_le {G : Nat → List ByteArray} {k m : Nat} (h : k ≤ m) : (catK G k).length ≤ (catK G m).length := by
  induction m with
  | zero => have : k = 0 := by omega
            subst this; exact Nat.le_refl _
  | succ m ih =>
    rcases Nat.lt_or_eq_of_le h with h | rfl
    · have h1 := ih (by omega)
      have h2 : catK G (m + 1) = catK G m ++ G m := rfl
      rw [h2, List.length_append]; omega
    · exact Nat.le_refl _
set_option maxRecDepth 100000 in
set_option maxHeartbeats 32000000 in
theorem rlines_any (ts : List Nd) (hlen : ts.length < 100000000) (hok : ∀ x ∈ ts, NdOk x) (a : Option Addr) (cap : Nat) (w : World) (hts : NodesAt w a ts) (hT : PT w) :
    Calls Tryz.prog 18 #[.agg #[.slice a ts.length cap]] w (LsEnd w (linesP ts)) := by
  obtain ⟨w0, rfl⟩ : ∃ w0, w0 = w := ⟨_, rfl⟩
  obtain ⟨W1, hW1⟩ : ∃ W1, W1 = w0.alloc (.cells #[.slice a ts.length cap] 24) := ⟨_, rfl⟩
  have k1 : KB F0 w0 W1 := by rw [hW1]; exact tree_box _ _ _ _
  have hb1 : W1.heap[w0.heap.size]? = some (.cells #[.slice a ts.length cap] 24 (0, 0)) := by rw [hW1]; exact alloc_new _ _
  have TM := Lib.hid (fun (W : World) (hk : KB F0 w0 W) => cmay_any ts hlen hok a cap W (hts.kbF hk) (hT.kb hk).asc)
  obtain ⟨R, hR⟩ : ∃ R, R = linesP ts := ⟨_, rfl⟩
  rw [← hR]
  unfold linesP at hR
  have HB := Lib.hid (And.intro k1 hb1)
  have HW := Lib.hid hW1
  by_cases hm : mayN ts = true
  case neg =>
    have hm : mayN ts = false := by simpa using hm
    have HE : Hid (R = ([], 2)) := Lib.hid (by rw [hR, hm]; rfl)
    rw [hm] at TM
    generalize ts.length = N at TM HB HW ⊢
    clear hR hts hT hok hm hlen k1 hb1 hW1
    go_enter Tryz.func18, Tryz.ntmps18
    go_wp2_with fail
    rw [← HW.out]
    refine (TM.out W1 HB.out.1).mono ?_
    rintro e w2 ⟨rfl, k2⟩
    have K2 := Lib.hid (HB.out.1.trans k2)
    clear k2
    go_wp2_with fail
    go_ret2
    exact ⟨.slice none 0 0, by rw [HE.out]; rfl, by rw [HE.out]; exact World.ownsRow_nil _ _ _ _, K2.out⟩
  have h := tok_of hm
  have hlen := h.len
  rw [hm] at TM hR
  rw [Bool.true_and] at hR
  have h0 := h.good.1
  obtain ⟨b, off, rfl, hx⟩ := hts 0 h0
  obtain ⟨la, lc, hl4, hints, hlc, hlm⟩ := hx.l
  unfold maxLen at hlm
  have ck := hx.k
  rw [Nat.zero_mul, Nat.add_zero] at ck
  rw [Nat.zero_mul, Nat.add_zero] at hl4
  have hll := lines_len h
  have hlz := lines_size h hok
  have hkids : (ts.getD 0 nd0).k = 1 → ∀ i, i < (ts.getD 0 nd0).l.length → ∃ q : Nat, (ts.getD 0 nd0).l.getD i 0 = (q : Int) ∧ (fun i => if i < (ts.getD 0 nd0).l.length then St5 ts (kid (ts.getD 0 nd0) i) 0 ByteArray.empty else []) i = St5 ts q 0 ByteArray.empty ∧ 1 ≤ (St5 ts q 0 ByteArray.empty).length ∧
      ∀ W, KB F0 w0 W → Calls Tryz.prog 54 #[.agg #[.slice (some ⟨b, off, none⟩) ts.length cap], .int .i64 q] W (LnEnd W (St5 ts q 0 ByteArray.empty)) := fun e i hi => by
    have e2 := h.kid h0 hi
    exact ⟨_, e2.2.2, if_pos hi, item_pos h e2.2.1 (h.file h0 e i hi) _ _, fun W hk => ritem_any ts h hok b off cap _ W (hts.kbF hk) (hT.kb hk) e2.2.1 (h.file h0 e i hi)⟩
  have hit : (ts.getD 0 nd0).k = 2 ∨ (ts.getD 0 nd0).k = 4 → ∀ W, KB F0 w0 W → Calls Tryz.prog 54 #[.agg #[.slice (some ⟨b, off, none⟩) ts.length cap], .int .i64 0] W (LnEnd W (St5 ts 0 0 ByteArray.empty)) := fun e W hk => ritem_any ts h hok b off cap 0 W (hts.kbF hk) (hT.kb hk) h0 e
  have hst : isStmtB (ts.getD 0 nd0).k = true → ∀ W, KB F0 w0 W → Calls Tryz.prog 56 #[.agg #[.slice (some ⟨b, off, none⟩) ts.length cap], .int .i64 0, .int .i64 0] W (LnEnd W (St5 ts 0 0 ByteArray.empty)) := fun e W hk => rstmt_any ts h hok (some ⟨b, off, none⟩) cap w0 hts hT h0 W 0 hk e (Nat.le_refl _)
  have hLN : linesN ts = if (ts.getD 0 nd0).k = 1 then catK (fun i => if i < (ts.getD 0 nd0).l.length then St5 ts (kid (ts.getD 0 nd0) i) 0 ByteArray.empty else []) (ts.getD 0 nd0).l.length else St5 ts 0 0 ByteArray.empty := rfl
  generalize hG : (fun i => if i < (ts.getD 0 nd0).l.length then St5 ts (kid (ts.getD 0 nd0) i) 0 ByteArray.empty else []) = G at hkids hLN
  generalize St5 ts 0 0 ByteArray.empty = S0 at hit hst hLN
  generalize linesN ts = L at hLN hll hlz hR
  have hrt : rootOk (ts.getD 0 nd0).k = (decide ((ts.getD 0 nd0).k = 1) || decide ((ts.getD 0 nd0).k = 2) || decide ((ts.getD 0 nd0).k = 4) || isStmtB (ts.getD 0 nd0).k) := rfl
  rw [hrt] at hR
  have hsk : isStmtB (ts.getD 0 nd0).k = true → (ts.getD 0 nd0).k ≠ 1 ∧ (ts.getD 0 nd0).k ≠ 2 ∧ (ts.getD 0 nd0).k ≠ 4 := fun e => by rcases stmt_kinds e with e | e | e | e | e | e | e | e | e | e | e <;> omega
  generalize (ts.getD 0 nd0).k = K at *
  generalize (ts.getD 0 nd0).l = l at *
  obtain ⟨M, hM⟩ : ∃ M, M = l.length := ⟨_, rfl⟩
  rw [← hM] at hl4 hlc hkids hLN
  have HI := Lib.hid (fun i (hi : i < M) => hints i (by rw [← hM]; exact hi))
  have HKD := Lib.hid hkids
  have HIT := Lib.hid hit
  have HST := Lib.hid hst
  have HR := Lib.hid hR
  have HLN := Lib.hid hLN
  have IE := Lib.hid (fun (W : World) => cisStmt_any K W)
  have hLl : L.length ≤ 40000 := by omega
  have hLz : szL L ≤ 100000000000000 := by omega
  have HLL := Lib.hid (And.intro hLl hLz)
  have HC := Lib.hid (And.intro ck hl4)
  generalize ts.length = N at TM HB HW HKD HIT HST h0 hlen ⊢
  have h0i : (0 : Int) < (N : Int) := by omega
  clear hts hT hok hm k1 hb1 hW1 h hx hints hkids hit hst hLN hG hll hlz hLl hLz hR hrt hM hlen ck hl4
  by_cases hK2 : K = 2
  · obtain rfl := hK2
    have HEL : Hid (L = S0) := Lib.hid (by rw [HLN.out, if_neg (by decide)])
    have HRK : Hid (R = if 65536 < szL L then ([], 3) else (L, 0)) := Lib.hid (by rw [HR.out]; rfl)
    have HC1 := Lib.hid (HIT.out (by decide))
    clear HKD HIT HST HLN HR HI IE hsk
    rw [show ((2 : Nat) : Int) = 2 from rfl] at HC
    go_enter Tryz.func18, Tryz.ntmps18
    go_wp2_with fail
    rw [← HW.out]
    refine (TM.out W1 HB.out.1).mono ?_
    rintro e w2 ⟨rfl, k2⟩
    have c0 : w2.cell? ⟨w0.heap.size, 0, none⟩ = some (.slice (some ⟨b, off, none⟩) N cap) := blk_cell (k2.heap (fun x => x) HB.out.2) 0
    have ck := (HB.out.1.trans k2).cell (p := ⟨b, off, none⟩) (fun x => x) HC.out.1
    have K2 := Lib.hid (And.intro (HB.out.1.trans k2) (k2.heap (fun x => x) HB.out.2))
    clear k2
    go_wp2_with fail
    refine (HC1.out _ K2.out.1).mono ?_
    rintro e w5 ⟨v5, rfl, h5, k5⟩
    rw [← HEL.out] at h5
    have HV := Lib.hid (And.intro (own_low h5 K2.out.1.size) (K2.out.1.trans k5))
    clear h5 k5 c0 ck
    have hsh := HV.out.1
    obtain ⟨va, vc, rfl, -, -, hcells, -⟩ := own_shape hsh
    have HCL := Lib.hid hcells
    clear hsh hcells
    obtain ⟨n, hn⟩ : ∃ n, n = L.length := ⟨_, rfl⟩
    rw [← hn] at HCL HV
    rw [← hn]
    have HN := Lib.hid (And.intro hn (show n ≤ 40000 by rw [hn]; exact HLL.out.1))
    clear hn
    go_wp2_with fail
    go_loop [7, 8] (fun sv kv => ∃ k : Nat, k ≤ n ∧ sv = .int .i64 (szL (L.take k) : Nat) ∧ kv = .int .i64 (k : Nat)) (fun _ kv => n - (intOf kv).toNat)
    case atStart => exact ⟨0, by omega, rfl, rfl⟩
    case round =>
      obtain ⟨k, hk, rfl, rfl⟩ := hrel
      have hn4 := HN.out.2
      by_cases hlt : k < n
      · have hkM : (k : Int) < (n : Int) := by omega
        obtain ⟨g, rfl, -, hcz⟩ := HCL.out k (by omega)
        have hkL : k < L.length := by rw [← HN.out.1]; exact hlt
        rw [List.getElem?_map, List.getElem?_eq_getElem hkL] at hcz
        change _ = some (Value.string _) at hcz
        have hs1 : szL (L.take (k + 1)) = szL (L.take k) + ((L[k]'hkL).size + 1) := by
          rw [take_getD (d := ByteArray.empty) hkL, szL_app, szL_one, List.getD_eq_getElem?_getD, List.getElem?_eq_getElem hkL, Option.getD_some]
        have hs2 := szL_take L (k + 1)
        have hs3 := HLL.out.2
        generalize L[k]'hkL = x at hcz hs1
        generalize szL (L.take k) = z at hs1 ⊢
        have HS1 := Lib.hid hs1
        have v1 : IntKind.i64.wrap ((z : Int) + (x.size : Int)) = ((z + x.size : Nat) : Int) := by rw [w64 (by omega) (by omega)]; omega
        have v2 : IntKind.i64.wrap (((z + x.size : Nat) : Int) + 1) = ((z + (x.size + 1) : Nat) : Int) := by rw [w64 (by omega) (by omega)]; omega
        have HV12 := Lib.hid (And.intro v1 v2)
        clear hs1 hs2 hs3 hkL
        generalize hzz : z + x.size = z2 at v1 v2
        generalize hz3 : z + (x.size + 1) = z3 at v2
        have HZ3 := Lib.hid hz3
        clear hzz hz3
        go_wp2_with fail
        go_round
        case rel => exact ⟨k + 1, by omega, by rw [HS1.out, HZ3.out], by go_num⟩
        case measure => simp [intOf]; omega
      · obtain rfl : k = n := by omega
        have hE : szL (L.take k) = szL L := by rw [HN.out.1, List.take_length]
        rw [hE]
        by_cases hz : 65536 < szL L
        · have HE : Hid (R = ([], 3)) := Lib.hid (by rw [HRK.out, if_pos hz])
          have t1 : decide (65536 < szL L) = true := decide_eq_true hz
          have t2 : decide ((65536 : Int) < (szL L : Int)) = true := decide_eq_true (by omega)
          clear hE hz
          go_wp2_with fail
          go_ret2
          exact ⟨.slice none 0 0, by rw [HE.out]; rfl, by rw [HE.out]; exact World.ownsRow_nil _ _ _ _, HV.out.2⟩
        · have HE : Hid (R = (L, 0)) := Lib.hid (by rw [HRK.out, if_neg hz])
          have t1 : decide (65536 < szL L) = false := decide_eq_false hz
          have t2 : decide ((65536 : Int) < (szL L : Int)) = false := decide_eq_false (by omega)
          clear hE hz
          go_wp2_with fail
          go_ret2
          exact ⟨_, by rw [HE.out]; rfl, by rw [HE.out, ← HN.out.1]; exact HV.out.1, HV.out.2⟩
  by_cases hK4 : K = 4
  · obtain rfl := hK4
    have HEL : Hid (L = S0) := Lib.hid (by rw [HLN.out, if_neg (by decide)])
    have HRK : Hid (R = if 65536 < szL L then ([], 3) else (L, 0)) := Lib.hid (by rw [HR.out]; rfl)
    have HC1 := Lib.hid (HIT.out (by decide))
    clear HKD HIT HST HLN HR HI IE hsk
    rw [show ((4 : Nat) : Int) = 4 from rfl] at HC
    go_enter Tryz.func18, Tryz.ntmps18
    go_wp2_with fail
    rw [← HW.out]
    refine (TM.out W1 HB.out.1).mono ?_
    rintro e w2 ⟨rfl, k2⟩
    have c0 : w2.cell? ⟨w0.heap.size, 0, none⟩ = some (.slice (some ⟨b, off, none⟩) N cap) := blk_cell (k2.heap (fun x => x) HB.out.2) 0
    have ck := (HB.out.1.trans k2).cell (p := ⟨b, off, none⟩) (fun x => x) HC.out.1
    have K2 := Lib.hid (And.intro (HB.out.1.trans k2) (k2.heap (fun x => x) HB.out.2))
    clear k2
    go_wp2_with fail
    refine (HC1.out _ K2.out.1).mono ?_
    rintro e w5 ⟨v5, rfl, h5, k5⟩
    rw [← HEL.out] at h5
    have HV := Lib.hid (And.intro (own_low h5 K2.out.1.size) (K2.out.1.trans k5))
    clear h5 k5 c0 ck
    have hsh := HV.out.1
    obtain ⟨va, vc, rfl, -, -, hcells, -⟩ := own_shape hsh
    have HCL := Lib.hid hcells
    clear hsh hcells
    obtain ⟨n, hn⟩ : ∃ n, n = L.length := ⟨_, rfl⟩
    rw [← hn] at HCL HV
    rw [← hn]
    have HN := Lib.hid (And.intro hn (show n ≤ 40000 by rw [hn]; exact HLL.out.1))
    clear hn
    go_wp2_with fail
    go_loop [7, 8] (fun sv kv => ∃ k : Nat, k ≤ n ∧ sv = .int .i64 (szL (L.take k) : Nat) ∧ kv = .int .i64 (k : Nat)) (fun _ kv => n - (intOf kv).toNat)
    case atStart => exact ⟨0, by omega, rfl, rfl⟩
    case round =>
      obtain ⟨k, hk, rfl, rfl⟩ := hrel
      have hn4 := HN.out.2
      by_cases hlt : k < n
      · have hkM : (k : Int) < (n : Int) := by omega
        obtain ⟨g, rfl, -, hcz⟩ := HCL.out k (by omega)
        have hkL : k < L.length := by rw [← HN.out.1]; exact hlt
        rw [List.getElem?_map, List.getElem?_eq_getElem hkL] at hcz
        change _ = some (Value.string _) at hcz
        have hs1 : szL (L.take (k + 1)) = szL (L.take k) + ((L[k]'hkL).size + 1) := by
          rw [take_getD (d := ByteArray.empty) hkL, szL_app, szL_one, List.getD_eq_getElem?_getD, List.getElem?_eq_getElem hkL, Option.getD_some]
        have hs2 := szL_take L (k + 1)
        have hs3 := HLL.out.2
        generalize L[k]'hkL = x at hcz hs1
        generalize szL (L.take k) = z at hs1 ⊢
        have HS1 := Lib.hid hs1
        have v1 : IntKind.i64.wrap ((z : Int) + (x.size : Int)) = ((z + x.size : Nat) : Int) := by rw [w64 (by omega) (by omega)]; omega
        have v2 : IntKind.i64.wrap (((z + x.size : Nat) : Int) + 1) = ((z + (x.size + 1) : Nat) : Int) := by rw [w64 (by omega) (by omega)]; omega
        have HV12 := Lib.hid (And.intro v1 v2)
        clear hs1 hs2 hs3 hkL
        generalize hzz : z + x.size = z2 at v1 v2
        generalize hz3 : z + (x.size + 1) = z3 at v2
        have HZ3 := Lib.hid hz3
        clear hzz hz3
        go_wp2_with fail
        go_round
        case rel => exact ⟨k + 1, by omega, by rw [HS1.out, HZ3.out], by go_num⟩
        case measure => simp [intOf]; omega
      · obtain rfl : k = n := by omega
        have hE : szL (L.take k) = szL L := by rw [HN.out.1, List.take_length]
        rw [hE]
        by_cases hz : 65536 < szL L
        · have HE : Hid (R = ([], 3)) := Lib.hid (by rw [HRK.out, if_pos hz])
          have t1 : decide (65536 < szL L) = true := decide_eq_true hz
          have t2 : decide ((65536 : Int) < (szL L : Int)) = true := decide_eq_true (by omega)
          clear hE hz
          go_wp2_with fail
          go_ret2
          exact ⟨.slice none 0 0, by rw [HE.out]; rfl, by rw [HE.out]; exact World.ownsRow_nil _ _ _ _, HV.out.2⟩
        · have HE : Hid (R = (L, 0)) := Lib.hid (by rw [HRK.out, if_neg hz])
          have t1 : decide (65536 < szL L) = false := decide_eq_false hz
          have t2 : decide ((65536 : Int) < (szL L : Int)) = false := decide_eq_false (by omega)
          clear hE hz
          go_wp2_with fail
          go_ret2
          exact ⟨_, by rw [HE.out]; rfl, by rw [HE.out, ← HN.out.1]; exact HV.out.1, HV.out.2⟩
  by_cases hK1 : K = 1
  · obtain rfl := hK1
    have HEL : Hid (L = catK G M) := Lib.hid (by rw [HLN.out, if_pos rfl])
    have HRK : Hid (R = if 65536 < szL L then ([], 3) else (L, 0)) := Lib.hid (by rw [HR.out]; rfl)
    have HKD2 := Lib.hid (HKD.out rfl)
    clear HKD HIT HST HLN HR IE hsk hK2 hK4
    rw [show ((1 : Nat) : Int) = 1 from rfl] at HC
    go_enter Tryz.func18, Tryz.ntmps18
    go_wp2_with fail
    rw [← HW.out]
    refine (TM.out W1 HB.out.1).mono ?_
    rintro e w2 ⟨rfl, k2⟩
    have c0 : w2.cell? ⟨w0.heap.size, 0, none⟩ = some (.slice (some ⟨b, off, none⟩) N cap) := blk_cell (k2.heap (fun x => x) HB.out.2) 0
    have ck := (HB.out.1.trans k2).cell (p := ⟨b, off, none⟩) (fun x => x) HC.out.1
    have K2 := Lib.hid (And.intro (HB.out.1.trans k2) (k2.heap (fun x => x) HB.out.2))
    clear k2
    go_wp2_with fail
    clear c0 ck
    go_loopw [5, 6] (fun ov kv wr => ∃ k : Nat, k ≤ M ∧ kv = .int .i64 (k : Nat) ∧ Hid (wr.ownsRow w0.heap.size 9 1 ov (catK G k).length ((catK G k).map Value.string) ∧ KB F0 w0 wr ∧ wr.heap[w0.heap.size]? = some (.cells #[.slice (some ⟨b, off, none⟩) N cap] 24 (0, 0)))) (fun _ kv _ => M - (intOf kv).toNat)
    case atStart => exact ⟨0, by omega, rfl, Lib.hid ⟨World.ownsRow_nil _ _ _ _, K2.out⟩⟩
    case round =>
      obtain ⟨k, hk, rfl, hst⟩ := hrel
      obtain ⟨a1, cap1, rfl, -, -, -, -⟩ := own_shape hst.out.1
      obtain ⟨NL, hNL⟩ : ∃ NL, NL = (catK G k).length := ⟨_, rfl⟩
      rw [← hNL] at hst ⊢
      have eT : wr.cell? ⟨w0.heap.size, 0, none⟩ = some (.slice (some ⟨b, off, none⟩) N cap) := blk_cell hst.out.2.2 0
      have y4 := hst.out.2.1.cell (p := ⟨b, off + 4, none⟩) (fun x => x) HC.out.2
      by_cases hlt : k < M
      · have hkM : (k : Int) < (M : Int) := by omega
        obtain ⟨lb, lo, rfl, hce⟩ := HI.out k hlt
        obtain ⟨q, hq, hGk, h1q, hS⟩ := HKD2.out k hlt
        rw [hq] at hce
        have hcd := hst.out.2.1.cell (p := ⟨lb, lo + k, none⟩) (fun x => x) hce
        have lt4 : lb < wr.heap.size := heap_ltc hcd
        have lt5 : b < wr.heap.size := heap_ltc y4
        have hgk : catK G (k + 1) = catK G k ++ G k := rfl
        rw [hGk] at hgk
        have hle := catK_le (G := G) (show k + 1 ≤ M by omega)
        rw [← HEL.out] at hle
        have hle2 := HLL.out.1
        generalize St5 ts q 0 ByteArray.empty = L1 at hS hgk h1q
        rw [hgk, List.length_append, ← hNL] at hle
        obtain ⟨ML, hML⟩ : ∃ ML, ML = L1.length := ⟨_, rfl⟩
        unfold LnEnd at hS
        rw [← hML] at h1q hle hS
        have C1 := Lib.hid (fun (W : World) (hk : KB F0 wr W) => hS W (hst.out.2.1.trans hk))
        have HGK := Lib.hid hgk
        have HLE := Lib.hid (And.intro h1q (And.intro (show NL + ML ≤ 40000 by omega) hML))
        have HNL := Lib.hid hNL
        clear hNL hML hce hq hGk hS hle hle2 hgk h1q
        go_wp2_with fail
        refine wp_region_rv 11 GK (kindW [(10, (SlV ML), (SlW w0.heap.size ML (L1.map Value.string)))]) (by kernel_rfl) (by kernel_rfl) (kb_trans _) (kb_refl _) (kb_start _ _) (kindW_mono _ (by intro p hp; simp only [List.mem_cons, List.not_mem_nil, or_false] at hp; (subst hp; exact lasts_sl _ _ _))) ?_
        simp only [List.take_succ_cons, List.take_zero, List.drop_succ_cons, List.drop_zero]
        iterate 10 (refine rv_det (by kernel_rfl) rfl (by intro w hG hH; have hc0 := KB.cell hG (fun x => x) (eT); have hc1 := KB.cell hG (fun x => x) (y4); have hc2 := KB.cell hG (fun x => x) (hcd); go_simp; first | done | with_reducible rfl) ?_; simp only [Act.put, List.setIfInBounds_toArray, List.set_cons_zero, List.set_cons_succ])
        refine rv_rel (by kernel_rfl) rfl ⟨.slice (some ⟨0, 0, none⟩) ML 0, 0, 0, rfl⟩ ?hcallR ?hrestR
        case hcallR =>
          intro w hG hH
          clear hH
          refine opVal_call (by go_simp; first | done | exact ⟨⟨rfl, rfl⟩, rfl⟩) ?_
          refine (C1.out w hG).mono ?_
          rintro e w' ⟨v, rfl, hown, hkb⟩
          have h1 : SlV ML v := own_sl hown HLE.out.1
          have h2 : SlW w0.heap.size ML (L1.map Value.string) v w' := own_low hown (Nat.le_trans hst.out.2.1.size hG.size)
          clear hown
          refine ⟨v, rfl, h1, hkb, ?_⟩
          exact h2
        case hrestR =>
         rintro v ⟨gL, cL, rfl⟩
         simp only [Act.put, List.setIfInBounds_toArray, List.set_cons_zero, List.set_cons_succ]
         refine rv_nil (fun w hG hH => ?_)
         have hL := hH (10, _) List.mem_cons_self
         clear hH
         have HL : Hid (w.ownsRow w0.heap.size 9 1 (.slice (some ⟨gL, 0, none⟩) ML cL) ML (L1.map Value.string)) := Lib.hid hL
         have H1 := Lib.hid (And.intro (own_kb hst.out.1 hG (fun _ _ x => x)) (And.intro (hst.out.2.1.trans hG) (hG.heap (fun x => x) hst.out.2.2)))
         clear hG hst y4 eT hcd hL C1 lt4 lt5
         go_wp2_with (at_builtin; refine Stopped.out ?_)
         refine ⟨?_⟩
         refine appL 33 9 w0.heap.size (L1.map Value.string) Tryz.infoStr5 Tryz.underlying33 (by decide) H1.out.1 rfl rfl rfl rfl HL.out strs_one (by have := HLE.out.2.1; unfold maxLen; omega) (by have := HLE.out.2.1; omega) H1.out.2.1.size ?_
         intro v2 w3 hown2 hgr2
         have k3 : KB F0 w0 w3 := H1.out.2.1.grown hgr2 (own_ge H1.out.1 (Nat.le_refl _))
         have hT2 := keep_blk H1.out.1 hgr2 H1.out.2.2 (by decide)
         have hlen2 : NL + ML = (catK G (k + 1)).length := by
           rw [HGK.out, HNL.out, HLE.out.2.2, List.length_append]
         rw [← List.map_append, ← HGK.out, hlen2] at hown2
         have H2 := Lib.hid (And.intro hown2 (And.intro k3 hT2))
         clear hown2 k3 hT2 hlen2 hgr2
         go_wp2_with fail
         go_roundw
         case rel => exact ⟨k + 1, by omega, by go_num, H2⟩
         case measure => simp [intOf]; omega
      · obtain rfl : k = M := by omega
        have hV1 := hst.out.1
        rw [hNL, ← HEL.out] at hV1
        have HV := Lib.hid (And.intro hV1 hst.out.2.1)
        have hNL : NL = L.length := by rw [hNL, HEL.out]
        subst hNL
        clear hV1 hst
        have hsh := HV.out.1
        obtain ⟨va, vc, eva, -, -, hcells, -⟩ := own_shape hsh
        simp only [Value.slice.injEq, true_and] at eva
        obtain ⟨rfl, rfl⟩ := eva
        have HCL := Lib.hid hcells
        clear hsh hcells
        obtain ⟨n, hn⟩ : ∃ n, n = L.length := ⟨_, rfl⟩
        rw [← hn] at HCL HV
        rw [← hn]
        have HN := Lib.hid (And.intro hn (show n ≤ 40000 by rw [hn]; exact HLL.out.1))
        clear hn
        go_wp2_with fail
        go_loop [7, 8] (fun sv kv => ∃ k : Nat, k ≤ n ∧ sv = .int .i64 (szL (L.take k) : Nat) ∧ kv = .int .i64 (k : Nat)) (fun _ kv => n - (intOf kv).toNat)
        case atStart => exact ⟨0, by omega, rfl, rfl⟩
        case round =>
          obtain ⟨k, hk, rfl, rfl⟩ := hrel
          have hn4 := HN.out.2
          by_cases hlt : k < n
          · have hkM : (k : Int) < (n : Int) := by omega
            obtain ⟨g, rfl, -, hcz⟩ := HCL.out k (by omega)
            have hkL : k < L.length := by rw [← HN.out.1]; exact hlt
            rw [List.getElem?_map, List.getElem?_eq_getElem hkL] at hcz
            change _ = some (Value.string _) at hcz
            have hs1 : szL (L.take (k + 1)) = szL (L.take k) + ((L[k]'hkL).size + 1) := by
              rw [take_getD (d := ByteArray.empty) hkL, szL_app, szL_one, List.getD_eq_getElem?_getD, List.getElem?_eq_getElem hkL, Option.getD_some]
            have hs2 := szL_take L (k + 1)
            have hs3 := HLL.out.2
            generalize L[k]'hkL = x at hcz hs1
            generalize szL (L.take k) = z at hs1 ⊢
            have HS1 := Lib.hid hs1
            have v1 : IntKind.i64.wrap ((z : Int) + (x.size : Int)) = ((z + x.size : Nat) : Int) := by rw [w64 (by omega) (by omega)]; omega
            have v2 : IntKind.i64.wrap (((z + x.size : Nat) : Int) + 1) = ((z + (x.size + 1) : Nat) : Int) := by rw [w64 (by omega) (by omega)]; omega
            have HV12 := Lib.hid (And.intro v1 v2)
            clear hs1 hs2 hs3 hkL
            generalize hzz : z + x.size = z2 at v1 v2
            generalize hz3 : z + (x.size + 1) = z3 at v2
            have HZ3 := Lib.hid hz3
            clear hzz hz3
            go_wp2_with fail
            go_round
            case rel => exact ⟨k + 1, by omega, by rw [HS1.out, HZ3.out], by go_num⟩
            case measure => simp [intOf]; omega
          · obtain rfl : k = n := by omega
            have hE : szL (L.take k) = szL L := by rw [HN.out.1, List.take_length]
            rw [hE]
            by_cases hz : 65536 < szL L
            · have HE : Hid (R = ([], 3)) := Lib.hid (by rw [HRK.out, if_pos hz])
              have t1 : decide (65536 < szL L) = true := decide_eq_true hz
              have t2 : decide ((65536 : Int) < (szL L : Int)) = true := decide_eq_true (by omega)
              clear hE hz
              go_wp2_with fail
              go_ret2
              exact ⟨.slice none 0 0, by rw [HE.out]; rfl, by rw [HE.out]; exact World.ownsRow_nil _ _ _ _, HV.out.2⟩
            · have HE : Hid (R = (L, 0)) := Lib.hid (by rw [HRK.out, if_neg hz])
              have t1 : decide (65536 < szL L) = false := decide_eq_false hz
              have t2 : decide ((65536 : Int) < (szL L : Int)) = false := decide_eq_false (by omega)
              clear hE hz
              go_wp2_with fail
              go_ret2
              exact ⟨_, by rw [HE.out]; rfl, by rw [HE.out, ← HN.out.1]; exact HV.out.1, HV.out.2⟩
  cases hs : isStmtB K
  case true =>
    have HEL : Hid (L = S0) := Lib.hid (by rw [HLN.out, if_neg hK1])
    have HRK : Hid (R = if 65536 < szL L then ([], 3) else (L, 0)) := Lib.hid (by rw [HR.out, hs, Bool.or_true]; rfl)
    have HC1 := Lib.hid (HST.out hs)
    rw [hs] at IE
    have t1 : ((K : Int) == 1) = false := by simp; omega
    have t2 : ((K : Int) == 2) = false := by simp; omega
    have t3 : ((K : Int) == 4) = false := by simp; omega
    clear HKD HIT HST HLN HR HI hsk hs
    go_enter Tryz.func18, Tryz.ntmps18
    go_wp2_with fail
    rw [← HW.out]
    refine (TM.out W1 HB.out.1).mono ?_
    rintro e w2 ⟨rfl, k2⟩
    have c0 : w2.cell? ⟨w0.heap.size, 0, none⟩ = some (.slice (some ⟨b, off, none⟩) N cap) := blk_cell (k2.heap (fun x => x) HB.out.2) 0
    have ck := (HB.out.1.trans k2).cell (p := ⟨b, off, none⟩) (fun x => x) HC.out.1
    have K2 := Lib.hid (And.intro (HB.out.1.trans k2) (k2.heap (fun x => x) HB.out.2))
    clear k2
    go_wp2_with fail
    refine (IE.out w2).mono ?_
    rintro e w3 ⟨rfl, rfl⟩
    go_wp2_with fail
    refine (HC1.out _ K2.out.1).mono ?_
    rintro e w5 ⟨v5, rfl, h5, k5⟩
    rw [← HEL.out] at h5
    have HV := Lib.hid (And.intro (own_low h5 K2.out.1.size) (K2.out.1.trans k5))
    clear h5 k5 c0 ck
    have hsh := HV.out.1
    obtain ⟨va, vc, rfl, -, -, hcells, -⟩ := own_shape hsh
    have HCL := Lib.hid hcells
    clear hsh hcells
    obtain ⟨n, hn⟩ : ∃ n, n = L.length := ⟨_, rfl⟩
    rw [← hn] at HCL HV
    rw [← hn]
    have HN := Lib.hid (And.intro hn (show n ≤ 40000 by rw [hn]; exact HLL.out.1))
    clear hn
    go_wp2_with fail
    go_loop [7, 8] (fun sv kv => ∃ k : Nat, k ≤ n ∧ sv = .int .i64 (szL (L.take k) : Nat) ∧ kv = .int .i64 (k : Nat)) (fun _ kv => n - (intOf kv).toNat)
    case atStart => exact ⟨0, by omega, rfl, rfl⟩
    case round =>
      obtain ⟨k, hk, rfl, rfl⟩ := hrel
      have hn4 := HN.out.2
      by_cases hlt : k < n
      · have hkM : (k : Int) < (n : Int) := by omega
        obtain ⟨g, rfl, -, hcz⟩ := HCL.out k (by omega)
        have hkL : k < L.length := by rw [← HN.out.1]; exact hlt
        rw [List.getElem?_map, List.getElem?_eq_getElem hkL] at hcz
        change _ = some (Value.string _) at hcz
        have hs1 : szL (L.take (k + 1)) = szL (L.take k) + ((L[k]'hkL).size + 1) := by
          rw [take_getD (d := ByteArray.empty) hkL, szL_app, szL_one, List.getD_eq_getElem?_getD, List.getElem?_eq_getElem hkL, Option.getD_some]
        have hs2 := szL_take L (k + 1)
        have hs3 := HLL.out.2
        generalize L[k]'hkL = x at hcz hs1
        generalize szL (L.take k) = z at hs1 ⊢
        have HS1 := Lib.hid hs1
        have v1 : IntKind.i64.wrap ((z : Int) + (x.size : Int)) = ((z + x.size : Nat) : Int) := by rw [w64 (by omega) (by omega)]; omega
        have v2 : IntKind.i64.wrap (((z + x.size : Nat) : Int) + 1) = ((z + (x.size + 1) : Nat) : Int) := by rw [w64 (by omega) (by omega)]; omega
        have HV12 := Lib.hid (And.intro v1 v2)
        clear hs1 hs2 hs3 hkL
        generalize hzz : z + x.size = z2 at v1 v2
        generalize hz3 : z + (x.size + 1) = z3 at v2
        have HZ3 := Lib.hid hz3
        clear hzz hz3
        go_wp2_with fail
        go_round
        case rel => exact ⟨k + 1, by omega, by rw [HS1.out, HZ3.out], by go_num⟩
        case measure => simp [intOf]; omega
      · obtain rfl : k = n := by omega
        have hE : szL (L.take k) = szL L := by rw [HN.out.1, List.take_length]
        rw [hE]
        by_cases hz : 65536 < szL L
        · have HE : Hid (R = ([], 3)) := Lib.hid (by rw [HRK.out, if_pos hz])
          have t1 : decide (65536 < szL L) = true := decide_eq_true hz
          have t2 : decide ((65536 : Int) < (szL L : Int)) = true := decide_eq_true (by omega)
          clear hE hz
          go_wp2_with fail
          go_ret2
          exact ⟨.slice none 0 0, by rw [HE.out]; rfl, by rw [HE.out]; exact World.ownsRow_nil _ _ _ _, HV.out.2⟩
        · have HE : Hid (R = (L, 0)) := Lib.hid (by rw [HRK.out, if_neg hz])
          have t1 : decide (65536 < szL L) = false := decide_eq_false hz
          have t2 : decide ((65536 : Int) < (szL L : Int)) = false := decide_eq_false (by omega)
          clear hE hz
          go_wp2_with fail
          go_ret2
          exact ⟨_, by rw [HE.out]; rfl, by rw [HE.out, ← HN.out.1]; exact HV.out.1, HV.out.2⟩
  case false =>
    have HE : Hid (R = ([], 2)) := Lib.hid (by rw [HR.out, hs, decide_eq_false hK1, decide_eq_false hK2, decide_eq_false hK4]; rfl)
    rw [hs] at IE
    have t1 : ((K : Int) == 1) = false := by simp; omega
    have t2 : ((K : Int) == 2) = false := by simp; omega
    have t3 : ((K : Int) == 4) = false := by simp; omega
    clear HKD HIT HST HLN HR HI hsk hs
    go_enter Tryz.func18, Tryz.ntmps18
    go_wp2_with fail
    rw [← HW.out]
    refine (TM.out W1 HB.out.1).mono ?_
    rintro e w2 ⟨rfl, k2⟩
    have c0 : w2.cell? ⟨w0.heap.size, 0, none⟩ = some (.slice (some ⟨b, off, none⟩) N cap) := blk_cell (k2.heap (fun x => x) HB.out.2) 0
    have ck := (HB.out.1.trans k2).cell (p := ⟨b, off, none⟩) (fun x => x) HC.out.1
    have K2 := Lib.hid (And.intro (HB.out.1.trans k2) (k2.heap (fun x => x) HB.out.2))
    clear k2
    go_wp2_with fail
    refine (IE.out w2).mono ?_
    rintro e w3 ⟨rfl, rfl⟩
    go_wp2_with fail
    go_ret2
    exact ⟨.slice none 0 0, by rw [HE.out]; rfl, by rw [HE.out]; exact World.ownsRow_nil _ _ _ _, K2.out.1⟩
end Go.Proofs.YtoophdcagpfmpaaGreatDoor

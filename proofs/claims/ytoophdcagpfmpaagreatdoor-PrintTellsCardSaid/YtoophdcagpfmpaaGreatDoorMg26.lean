/- print: told; File, Expr, Type. print.File, Expr, Type, Lines, Level. -/
import Derived.Test.YtoophdcagpfmpaaGreatDoorMg23
import Derived.Test.YtoophdcagpfmpaaGreatDoorMg25
namespace Go.Proofs.YtoophdcagpfmpaaGreatDoor
open Go.RowKit

def longP (s : ByteArray) : ByteArray × Nat := if 65536 < s.size then (ByteArray.empty, 3) else (s, 0)
/-- Behind told: refused, or a text that is not too long. -/
def ToldEnd (w : World) (Φ : World → Prop) (ok : Bool) (S : ByteArray) (e : Ending) (w' : World) : Prop :=
  (ok = true ∧ e = .returned (.tuple #[.string (longP S).1, .int .i64 ((longP S).2 : Nat)]) ∧ Φ w') ∨ (ok = false ∧ e = .returned (.tuple #[.string ByteArray.empty, .int .i64 2]) ∧ KB F0 w w')
theorem tmay_any (ts : List Nd) (hlen : ts.length < 100000000) (hok : ∀ x ∈ ts, NdOk x) (a : Option Addr) (cap : Nat) (w : World) (hts : NodesAt w a ts) (hT : Tab w) :
    Calls Tryz.prog 26 #[.agg #[.slice a ts.length cap]] w fun e w' => e = .returned (.bool (mayN ts)) ∧ KB F0 w w' := may_any ts hlen hok a cap w hts hT
set_option maxRecDepth 100000 in
set_option maxHeartbeats 4000000 in
theorem told_any (ts : List Nd) (hlen : ts.length < 100000000) (hok : ∀ x ∈ ts, NdOk x) (a : Option Addr) (cap cf tf : Nat) (w : World) (hts : NodesAt w a ts) (hT : PT w) (cls : Bool) (S : ByteArray) (Φ : World → Prop) (hS : mayN ts = true → S.size ≤ 9000000000000000)
    (hcl : mayN ts = true → ∀ W, KB F0 w W → Calls Tryz.prog cf #[.int .u8 ((ts.getD 0 nd0).k : Nat)] W fun e w' => e = .returned (.bool cls) ∧ KB F0 W w') (hte : mayN ts = true → cls = true → ∀ W, KB F0 w W → Calls Tryz.prog tf #[.slice a ts.length cap] W fun e w' => e = .returned (.string S) ∧ Φ w') (e1 : Enters cf) (e2 : Enters tf) :
    Calls Tryz.prog 34 #[.agg #[.slice a ts.length cap], .func (.func cf) #[] #[], .func (.func tf) #[] #[]] w (ToldEnd w Φ (mayN ts && cls) S) := by
  obtain ⟨w0, rfl⟩ : ∃ w0, w0 = w := ⟨_, rfl⟩
  obtain ⟨W1, hW1⟩ : ∃ W1, W1 = w0.alloc (.cells #[.slice a ts.length cap] 24) := ⟨_, rfl⟩
  have k1 : KB F0 w0 W1 := by rw [hW1]; exact (KB.refl _ _).alloc _
  have hb1 : W1.heap[w0.heap.size]? = some (.cells #[.slice a ts.length cap] 24 (0, 0)) := by rw [hW1]; exact alloc_new _ _
  have TM := Lib.hid (fun (W : World) (hk : KB F0 w0 W) => tmay_any ts hlen hok a cap W (hts.kbF hk) (hT.kb hk).asc)
  have hroot : mayN ts = true → ∃ b off, a = some ⟨b, off, none⟩ ∧ 0 < ts.length ∧ w0.cell? ⟨b, off, none⟩ = some (.int .u8 ((ts.getD 0 nd0).k : Nat)) := fun e => by
    have h0 := (tok_of e).good.1
    obtain ⟨b, off, ha, hx⟩ := hts 0 h0
    have := hx.k
    rw [Nat.zero_mul, Nat.add_zero] at this
    exact ⟨b, off, ha, h0, this⟩
  have HROOT := Lib.hid hroot
  have HC := Lib.hid hcl
  have HTE := Lib.hid hte
  have HS := Lib.hid hS
  have HB := Lib.hid (And.intro k1 hb1)
  have HW := Lib.hid hW1
  unfold Enters at e1 e2
  clear hcl hte hS k1 hb1 hW1 hts hT hok hroot
  generalize (ts.getD 0 nd0).k = K at HROOT HC
  generalize mayN ts = may at TM HROOT HC HTE HS ⊢
  generalize ts.length = N at TM HROOT HTE HW HB hlen ⊢
  cases may
  case false =>
    clear e1 e2
    go_enter Tryz.func34, Tryz.ntmps34
    go_wp2_with fail
    rw [← HW.out]
    refine (TM.out W1 HB.out.1).mono ?_
    rintro e w2 ⟨rfl, k2⟩
    have K2 := Lib.hid (HB.out.1.trans k2)
    clear k2 TM
    go_wp2_with fail
    go_ret2
    exact Or.inr ⟨rfl, rfl, K2.out⟩
  case true =>
    obtain ⟨b, off, rfl, h0, hc⟩ := HROOT.out rfl
    have h0i : (0 : Int) < (N : Int) := by omega
    have HC2 := Lib.hid (HC.out rfl)
    have HCK := Lib.hid hc
    clear HC hc HROOT
    cases cls
    case false =>
      go_enter Tryz.func34, Tryz.ntmps34
      go_wp2_with fail
      rw [← HW.out]
      refine (TM.out W1 HB.out.1).mono ?_
      rintro e w2 ⟨rfl, k2⟩
      have c0 : w2.cell? ⟨w0.heap.size, 0, none⟩ = some (.slice (some ⟨b, off, none⟩) N cap) := blk_cell (k2.heap (fun x => x) HB.out.2) 0
      have ck := (HB.out.1.trans k2).cell (p := ⟨b, off, none⟩) (fun x => x) HCK.out
      have K2 := Lib.hid (HB.out.1.trans k2)
      clear k2 TM
      go_wp2_with fail
      refine (HC2.out w2 K2.out).mono ?_
      rintro e w3 ⟨rfl, k3⟩
      have K3 := Lib.hid (K2.out.trans k3)
      clear k3 c0 ck
      go_wp2_with fail
      go_ret2
      exact Or.inr ⟨rfl, rfl, K3.out⟩
    case true =>
      have HT2 := Lib.hid (HTE.out rfl rfl)
      have hsz := HS.out rfl
      have HL : Hid (65536 < S.size → longP S = (ByteArray.empty, 3)) := Lib.hid (fun e => if_pos e)
      have HL2 : Hid (¬ 65536 < S.size → longP S = (S, 0)) := Lib.hid (fun e => if_neg e)
      go_enter Tryz.func34, Tryz.ntmps34
      go_wp2_with fail
      rw [← HW.out]
      refine (TM.out W1 HB.out.1).mono ?_
      rintro e w2 ⟨rfl, k2⟩
      have c0 : w2.cell? ⟨w0.heap.size, 0, none⟩ = some (.slice (some ⟨b, off, none⟩) N cap) := blk_cell (k2.heap (fun x => x) HB.out.2) 0
      have ck := (HB.out.1.trans k2).cell (p := ⟨b, off, none⟩) (fun x => x) HCK.out
      have K2 := Lib.hid (HB.out.1.trans k2)
      clear k2 TM
      go_wp2_with fail
      refine (HC2.out w2 K2.out).mono ?_
      rintro e w3 ⟨rfl, k3⟩
      have c0 := k3.cell (p := ⟨w0.heap.size, 0, none⟩) (fun x => x) c0
      have K3 := Lib.hid (K2.out.trans k3)
      clear k3 ck
      go_wp2_with fail
      refine (HT2.out w3 K3.out).mono ?_
      rintro e w4 ⟨rfl, hphi⟩
      have HPHI := Lib.hid hphi
      clear hphi c0
      by_cases hl : 65536 < S.size
      · have d1 : decide ((S.size : Int) ≤ 65536) = false := decide_eq_false (by omega)
        have HE := Lib.hid (HL.out hl)
        clear hl
        go_wp2_with fail
        go_ret2
        exact Or.inl ⟨rfl, by rw [HE.out]; rfl, HPHI.out⟩
      · have d1 : decide ((S.size : Int) ≤ 65536) = true := decide_eq_true (by omega)
        have HE := Lib.hid (HL2.out hl)
        clear hl
        go_wp2_with fail
        go_ret2
        exact Or.inl ⟨rfl, by rw [HE.out]; rfl, HPHI.out⟩
set_option maxRecDepth 100000 in
set_option maxHeartbeats 4000000 in
theorem told_cap1 (ts : List Nd) (hlen : ts.length < 100000000) (hok : ∀ x ∈ ts, NdOk x) (a : Option Addr) (cap cf tf : Nat) (cv : Value) (w : World) (hts : NodesAt w a ts) (hT : PT w) (cls : Bool) (S : ByteArray) (Φ : World → Prop) (hS : mayN ts = true → S.size ≤ 9000000000000000)
    (hcl : mayN ts = true → ∀ W, KB F0 w W → Calls Tryz.prog cf #[.int .u8 ((ts.getD 0 nd0).k : Nat)] W fun e w' => e = .returned (.bool cls) ∧ KB F0 W w') (hte : mayN ts = true → cls = true → ∀ W, KB F0 w W → Calls Tryz.prog tf #[.slice a ts.length cap, cv] W fun e w' => e = .returned (.string S) ∧ Φ w') (e1 : Enters cf) (e2 : Enters tf) :
    Calls Tryz.prog 34 #[.agg #[.slice a ts.length cap], .func (.func cf) #[] #[], .func (.func tf) #[] #[cv]] w (ToldEnd w Φ (mayN ts && cls) S) := by
  obtain ⟨w0, rfl⟩ : ∃ w0, w0 = w := ⟨_, rfl⟩
  obtain ⟨W1, hW1⟩ : ∃ W1, W1 = w0.alloc (.cells #[.slice a ts.length cap] 24) := ⟨_, rfl⟩
  have k1 : KB F0 w0 W1 := by rw [hW1]; exact (KB.refl _ _).alloc _
  have hb1 : W1.heap[w0.heap.size]? = some (.cells #[.slice a ts.length cap] 24 (0, 0)) := by rw [hW1]; exact alloc_new _ _
  have TM := Lib.hid (fun (W : World) (hk : KB F0 w0 W) => tmay_any ts hlen hok a cap W (hts.kbF hk) (hT.kb hk).asc)
  have hroot : mayN ts = true → ∃ b off, a = some ⟨b, off, none⟩ ∧ 0 < ts.length ∧ w0.cell? ⟨b, off, none⟩ = some (.int .u8 ((ts.getD 0 nd0).k : Nat)) := fun e => by
    have h0 := (tok_of e).good.1
    obtain ⟨b, off, ha, hx⟩ := hts 0 h0
    have := hx.k
    rw [Nat.zero_mul, Nat.add_zero] at this
    exact ⟨b, off, ha, h0, this⟩
  have HROOT := Lib.hid hroot
  have HC := Lib.hid hcl
  have HTE := Lib.hid hte
  have HS := Lib.hid hS
  have HB := Lib.hid (And.intro k1 hb1)
  have HW := Lib.hid hW1
  unfold Enters at e1 e2
  clear hcl hte hS k1 hb1 hW1 hts hT hok hroot
  generalize (ts.getD 0 nd0).k = K at HROOT HC
  generalize mayN ts = may at TM HROOT HC HTE HS ⊢
  generalize ts.length = N at TM HROOT HTE HW HB hlen ⊢
  cases may
  case false =>
    clear e1 e2
    go_enter Tryz.func34, Tryz.ntmps34
    go_wp2_with fail
    rw [← HW.out]
    refine (TM.out W1 HB.out.1).mono ?_
    rintro e w2 ⟨rfl, k2⟩
    have K2 := Lib.hid (HB.out.1.trans k2)
    clear k2 TM
    go_wp2_with fail
    go_ret2
    exact Or.inr ⟨rfl, rfl, K2.out⟩
  case true =>
    obtain ⟨b, off, rfl, h0, hc⟩ := HROOT.out rfl
    have h0i : (0 : Int) < (N : Int) := by omega
    have HC2 := Lib.hid (HC.out rfl)
    have HCK := Lib.hid hc
    clear HC hc HROOT
    cases cls
    case false =>
      go_enter Tryz.func34, Tryz.ntmps34
      go_wp2_with fail
      rw [← HW.out]
      refine (TM.out W1 HB.out.1).mono ?_
      rintro e w2 ⟨rfl, k2⟩
      have c0 : w2.cell? ⟨w0.heap.size, 0, none⟩ = some (.slice (some ⟨b, off, none⟩) N cap) := blk_cell (k2.heap (fun x => x) HB.out.2) 0
      have ck := (HB.out.1.trans k2).cell (p := ⟨b, off, none⟩) (fun x => x) HCK.out
      have K2 := Lib.hid (HB.out.1.trans k2)
      clear k2 TM
      go_wp2_with fail
      refine (HC2.out w2 K2.out).mono ?_
      rintro e w3 ⟨rfl, k3⟩
      have K3 := Lib.hid (K2.out.trans k3)
      clear k3 c0 ck
      go_wp2_with fail
      go_ret2
      exact Or.inr ⟨rfl, rfl, K3.out⟩
    case true =>
      have HT2 := Lib.hid (HTE.out rfl rfl)
      have hsz := HS.out rfl
      have HL : Hid (65536 < S.size → longP S = (ByteArray.empty, 3)) := Lib.hid (fun e => if_pos e)
      have HL2 : Hid (¬ 65536 < S.size → longP S = (S, 0)) := Lib.hid (fun e => if_neg e)
      go_enter Tryz.func34, Tryz.ntmps34
      go_wp2_with fail
      rw [← HW.out]
      refine (TM.out W1 HB.out.1).mono ?_
      rintro e w2 ⟨rfl, k2⟩
      have c0 : w2.cell? ⟨w0.heap.size, 0, none⟩ = some (.slice (some ⟨b, off, none⟩) N cap) := blk_cell (k2.heap (fun x => x) HB.out.2) 0
      have ck := (HB.out.1.trans k2).cell (p := ⟨b, off, none⟩) (fun x => x) HCK.out
      have K2 := Lib.hid (HB.out.1.trans k2)
      clear k2 TM
      go_wp2_with fail
      refine (HC2.out w2 K2.out).mono ?_
      rintro e w3 ⟨rfl, k3⟩
      have c0 := k3.cell (p := ⟨w0.heap.size, 0, none⟩) (fun x => x) c0
      have K3 := Lib.hid (K2.out.trans k3)
      clear k3 ck
      go_wp2_with fail
      refine (HT2.out w3 K3.out).mono ?_
      rintro e w4 ⟨rfl, hphi⟩
      have HPHI := Lib.hid hphi
      clear hphi c0
      by_cases hl : 65536 < S.size
      · have d1 : decide ((S.size : Int) ≤ 65536) = false := decide_eq_false (by omega)
        have HE := Lib.hid (HL.out hl)
        clear hl
        go_wp2_with fail
        go_ret2
        exact Or.inl ⟨rfl, by rw [HE.out]; rfl, HPHI.out⟩
      · have d1 : decide ((S.size : Int) ≤ 65536) = true := decide_eq_true (by omega)
        have HE := Lib.hid (HL2.out hl)
        clear hl
        go_wp2_with fail
        go_ret2
        exact Or.inl ⟨rfl, by rw [HE.out]; rfl, HPHI.out⟩
theorem pisExpr_any (c : Nat) (w : World) : Calls Tryz.prog 40 #[.int .u8 c] w fun e w' => e = .returned (.bool (isExprB c)) ∧ KB F0 w w' := by
  have t1 := dle1 (k := 24) (c := c) (m := 24) rfl
  have t2 := dle2 (k := 37) (c := c) (m := 37) rfl
  have t3 := dne1 (k := 35) (c := c) (m := 35) rfl
  have Hr : Hid (isExprB c = ((decide (24 ≤ c) && decide (c ≤ 37)) && !decide (c = 35))) := Lib.hid rfl
  generalize decide (24 ≤ c) = b1 at t1 Hr
  generalize decide (c ≤ 37) = b2 at t2 Hr
  generalize decide (c = 35) = b3 at t3 Hr
  cases b1 <;> cases b2 <;> cases b3
  all_goals
    go_enter Tryz.func40, Tryz.ntmps40
    go_wp2
    go_ret
    exact ⟨ret_eq (by rw [Hr.out]; rfl), KB.refl _ _⟩
theorem pisType_any (c : Nat) (w : World) : Calls Tryz.prog 43 #[.int .u8 c] w fun e w' => e = .returned (.bool (isTypeB c)) ∧ KB F0 w w' := by
  have t1 := dle1 (k := 8) (c := c) (m := 8) rfl
  have t2 := dle2 (k := 12) (c := c) (m := 12) rfl
  have Hr : Hid (isTypeB c = (decide (8 ≤ c) && decide (c ≤ 12))) := Lib.hid rfl
  generalize decide (8 ≤ c) = b1 at t1 Hr
  generalize decide (c ≤ 12) = b2 at t2 Hr
  cases b1 <;> cases b2
  all_goals
    go_enter Tryz.func43, Tryz.ntmps43
    go_wp2
    go_ret
    exact ⟨ret_eq (by rw [Hr.out]; rfl), KB.refl _ _⟩
theorem pfile1_any (c : Nat) (w : World) : Calls Tryz.prog 35 #[.int .u8 c] w fun e w' => e = .returned (.bool (decide (c = 1))) ∧ KB F0 w w' := by
  have t1 := deq1 (k := 1) (c := c) (m := 1) rfl
  generalize decide (c = 1) = b1 at t1 ⊢
  go_enter Tryz.func35, Tryz.ntmps35
  go_wp2
  go_ret
  exact ⟨rfl, KB.refl _ _⟩
theorem rootOk_eq (c : Nat) : rootOk c = (decide (c = 1) || decide (c = 2) || decide (c = 4) || decide (c = 13) || (decide (14 ≤ c) && decide (c ≤ 23))) := by
  unfold rootOk isStmtB
  rw [Bool.eq_iff_iff]
  simp only [Bool.or_eq_true, Bool.and_eq_true, decide_eq_true_eq]
  omega
theorem plines1_any (c : Nat) (w : World) : Calls Tryz.prog 50 #[.int .u8 c] w fun e w' => e = .returned (.bool (rootOk c)) ∧ KB F0 w w' := by
  have t1 := deq1 (k := 1) (c := c) (m := 1) rfl
  have t2 := deq1 (k := 2) (c := c) (m := 2) rfl
  have t3 := deq1 (k := 4) (c := c) (m := 4) rfl
  have t4 := deq1 (k := 13) (c := c) (m := 13) rfl
  have t5 := dle1 (k := 14) (c := c) (m := 14) rfl
  have t6 := dle2 (k := 23) (c := c) (m := 23) rfl
  have Hr := Lib.hid (rootOk_eq c)
  generalize decide (c = 1) = b1 at t1 Hr
  generalize decide (c = 2) = b2 at t2 Hr
  generalize decide (c = 4) = b3 at t3 Hr
  generalize decide (c = 13) = b4 at t4 Hr
  generalize decide (14 ≤ c) = b5 at t5 Hr
  generalize decide (c ≤ 23) = b6 at t6 Hr
  cases b1 <;> cases b2 <;> cases b3 <;> cases b4 <;> cases b5 <;> cases b6
  all_goals
    go_enter Tryz.func50, Tryz.ntmps50
    go_wp2
    go_ret
    exact ⟨ret_eq (by rw [Hr.out]; rfl), KB.refl _ _⟩
/-- The first lines, each with a byte 10 behind it. -/
def txtK (L : List ByteArray) : Nat → ByteArray
  | 0 => ByteArray.empty
  | k + 1 => txtK L k ++ (L.getD k ByteArray.empty ++ ⟨#[10]⟩)
theorem getD_app (L M : List ByteArray) {k : Nat} (h : k < L.length) : (L ++ M).getD k ByteArray.empty = L.getD k ByteArray.empty := by
  rw [List.getD_eq_getElem?_getD, List.getD_eq_getElem?_getD, List.getElem?_append_left h]
theorem txtK_size (L : List ByteArray) : ∀ k, k ≤ L.length → (txtK L k).size = szL (L.take k) := by
  intro k
  induction k with
  | zero => intro _; rfl
  | succ k ih =>
    intro hk
    show (txtK L k ++ _).size = _
    rw [take_getD (d := ByteArray.empty) (by omega), szL_app, szL_one, ← ih (by omega), ByteArray.size_append, ByteArray.size_append]
    rfl
theorem szL_take (L : List ByteArray) (k : Nat) : szL (L.take k) ≤ szL L := by
  conv => rhs; rw [← List.take_append_drop k L]
  rw [szL_app]; omega
theorem own_str {w : World} {B : Nat} {L : List ByteArray} {v : Value} (h : w.ownsRow B 9 1 v L.length (L.map Value.string)) {k : Nat} (hk : k < L.length) : ∃ g c, v = .slice (some ⟨g, 0, none⟩) L.length c ∧ w.cell? ⟨g, k, none⟩ = some (.string (L.getD k ByteArray.empty)) := by
  obtain ⟨a, cap, rfl, h1, h2, h3, -⟩ := own_shape h
  obtain ⟨g, rfl, -, hc⟩ := h3 k (by omega)
  refine ⟨g, cap, rfl, ?_⟩
  rw [hc, List.getElem?_map, List.getElem?_eq_getElem hk, List.getD_eq_getElem?_getD, List.getElem?_eq_getElem hk]
  rfl
set_option maxRecDepth 100000 in
set_option maxHeartbeats 8000000 in
theorem pfile2_any (ts : List Nd) (h : TOk ts) (hok : ∀ x ∈ ts, NdOk x) (a : Option Addr) (cap : Nat) (w : World) (hts : NodesAt w a ts) (hT : PT w) (hr : rootOk (ts.getD 0 nd0).k = true) :
    Calls Tryz.prog 36 #[.slice a ts.length cap] w fun e w' => e = .returned (.string (txtK (linesN ts) (linesN ts).length)) ∧ KB F0 w w' := by
  obtain ⟨w0, rfl⟩ : ∃ w0, w0 = w := ⟨_, rfl⟩
  have hll := lines_len h
  have hlz := lines_size h hok
  have hlen := h.len
  have LN := Lib.hid (fun (W : World) (hk : KB F0 w0 W) => lines_any ts h hok a cap W (hts.kbF hk) (hT.kb hk) hr)
  generalize linesN ts = L at hll hlz LN ⊢
  generalize ts.length = N at LN hll hlz hlen ⊢
  obtain ⟨W1, hW1⟩ : ∃ W1, W1 = w0.alloc (.cells #[.pointer none, .slice none 0 0] 66) := ⟨_, rfl⟩
  have hbu : BU W1 w0.heap.size w0.heap.size ByteArray.empty := by rw [hW1]; exact bu_new w0 (Nat.le_refl _)
  have k1 : KB F0 w0 W1 := by rw [hW1]; exact (KB.refl _ _).alloc _
  obtain ⟨M, hM⟩ : ∃ M, M = L.length := ⟨_, rfl⟩
  have HTX : Hid (∀ k, k < M → txtK L (k + 1) = txtK L k ++ (L.getD k ByteArray.empty ++ ⟨#[10]⟩)) := Lib.hid (fun k _ => rfl)
  have HTZ : Hid (∀ k, k ≤ M → (txtK L k).size ≤ 4000000000) := Lib.hid (fun k hk => by
    rw [txtK_size L k (by omega)]
    have := szL_take L k
    omega)
  have HGZ : Hid (∀ k, k < M → (txtK L k).size + ((L.getD k ByteArray.empty).size + 1) ≤ 4000000000) := Lib.hid (fun k hk => by
    have h1 := HTZ.out (k + 1) (by omega)
    rw [HTX.out k hk, ByteArray.size_append, ByteArray.size_append] at h1
    exact h1)
  have hsz1 : w0.heap.size < W1.heap.size := by rw [hW1]; simp
  have HB := Lib.hid (And.intro hbu (And.intro k1 hsz1))
  have HW := Lib.hid hW1
  rw [← hM] at hll ⊢
  have hM2 : M ≤ 100000 := by omega
  have HM := Lib.hid hM
  clear hbu k1 hW1 hts hT hr hok h hll hlz hlen hM hsz1
  go_enter Tryz.func36, Tryz.ntmps36
  go_wp2_with fail
  rw [← HW.out]
  refine (LN.out W1 HB.out.2.1).mono ?_
  rintro e w2 ⟨v, rfl, hown, k2⟩
  rw [← HM.out] at hown
  obtain ⟨va, vc, rfl, -, -, -, -⟩ := own_shape hown
  have hB0 : w0.heap.size < W1.heap.size := HB.out.2.2
  have hbu2 := HB.out.1.kb k2
  have H2 : Hid (w2.ownsRow (w0.heap.size + 1) 9 1 (.slice va M vc) M (L.map Value.string) ∧ KB F0 w0 w2) := Lib.hid ⟨own_base hown (by omega), HB.out.2.1.trans k2⟩
  have H0 : Hid (BU w2 w0.heap.size w0.heap.size (txtK L 0) ∧ KB F0 w0 w2 ∧ w2.ownsRow (w0.heap.size + 1) 9 1 (.slice va M vc) M (L.map Value.string)) := Lib.hid ⟨hbu2, H2.out.2, H2.out.1⟩
  clear hown k2 hbu2 H2 LN hB0
  go_wp2_with fail
  go_loopw [9] (fun kv wr => ∃ k : Nat, k ≤ M ∧ kv = .int .i64 (k : Nat) ∧ Hid (BU wr w0.heap.size w0.heap.size (txtK L k) ∧ KB F0 w0 wr ∧ wr.ownsRow (w0.heap.size + 1) 9 1 (.slice va M vc) M (L.map Value.string))) (fun kv _ => M - (intOf kv).toNat)
  case atStart => exact ⟨0, by omega, rfl, H0⟩
  case round =>
    obtain ⟨k, hk, rfl, hst⟩ := hrel
    by_cases hlt : k < M
    · have hkM : (k : Int) < (M : Int) := by omega
      obtain ⟨g, c, e1, hc⟩ := own_str (L := L) (by rw [← HM.out]; exact hst.out.2.2) (k := k) (by rw [← HM.out]; exact hlt)
      simp only [Value.slice.injEq] at e1
      obtain ⟨rfl, -, rfl⟩ := e1
      have hgz := HGZ.out k hlt
      have htx := HTX.out k hlt
      generalize L.getD k ByteArray.empty = s at hc hgz htx
      obtain ⟨s1, hs1⟩ : ∃ s1, s ++ ⟨#[10]⟩ = s1 := ⟨_, rfl⟩
      have ss1 : s1.size = s.size + 1 := by rw [← hs1, ByteArray.size_append]; rfl
      rw [hs1] at htx
      have WS := Lib.hid (ws_any w0.heap.size w0.heap.size (txtK L k) s1 wr hst.out.1 (by omega) hst.out.2.1.size)
      rw [← htx] at WS
      have z1 : ¬ (9223372036854775807 < s.size + 1) := by omega
      clear hgz htx ss1
      go_wp2_with fail
      refine WS.out.mono ?_
      rintro e w3 ⟨rfl, hbu3, hbl3, hok3⟩
      have hk3 := kb_below hst.out.2.1 hbl3
      have hown3 : w3.ownsRow (w0.heap.size + 1) 9 1 (.slice (some ⟨g, 0, none⟩) M vc) M (L.map Value.string) := by
        obtain ⟨o1, o2⟩ := hst.out.2.2
        refine ⟨o1, ?_⟩
        rcases o2 with o2 | ⟨g2, cap2, cur, hv, hg, hh, r⟩
        · exact Or.inl o2
        · exact Or.inr ⟨g2, cap2, cur, hv, hg, hok3 g2 _ hh (fun e => by have := Option.some.inj e; omega) (fun c fz e => by cases e), r⟩
      have H3 := Lib.hid (And.intro hbu3 (And.intro hk3 hown3))
      clear hbu3 hbl3 hok3 hk3 hown3 WS hc
      go_wp2_with fail
      go_roundw
      case rel => exact ⟨k + 1, by omega, by go_num, H3⟩
      case measure => simp [intOf]; omega
    · obtain rfl : k = M := by omega
      go_wp2_with fail
      refine (str_any w0.heap.size w0.heap.size (txtK L k) wr hst.out.1 hst.out.2.1.size).mono ?_
      rintro e w8 ⟨rfl, hbl8⟩
      have HK8 := Lib.hid (kb_below hst.out.2.1 hbl8)
      clear hbl8
      go_wp2_with fail
      go_ret
      exact ⟨rfl, HK8.out⟩
end Go.Proofs.YtoophdcagpfmpaaGreatDoor

namespace Go.Proofs.YtoophdcagpfmpaaGreatDoor
open Go.RowKit

def fileP (ts : List Nd) : ByteArray × Nat := if (mayN ts && decide ((ts.getD 0 nd0).k = 1)) = true then (if 65536 < szL (linesN ts) then (ByteArray.empty, 3) else (txtK (linesN ts) (linesN ts).length, 0)) else (ByteArray.empty, 2)
def exprP (ts : List Nd) : ByteArray × Nat := if (mayN ts && isExprB (ts.getD 0 nd0).k) = true then longP (Ex ts 0 1) else (ByteArray.empty, 2)
def typeP (ts : List Nd) : ByteArray × Nat := if (mayN ts && isTypeB (ts.getD 0 nd0).k) = true then longP (Ty ts 0) else (ByteArray.empty, 2)
def linesP (ts : List Nd) : List ByteArray × Nat := if (mayN ts && rootOk (ts.getD 0 nd0).k) = true then (if 65536 < szL (linesN ts) then ([], 3) else (linesN ts, 0)) else ([], 2)
def levelP (ts : List Nd) (n : Int) : Nat × Nat := if (mayN ts && decide (0 ≤ n) && decide (n < (ts.length : Int)) && isExprB (ts.getD n.toNat nd0).k) = true then (lvP (ts.getD n.toNat nd0).k (ts.getD n.toNat nd0).s, 0) else (0, 2)
theorem toldEnd_at {w : World} {ok : Bool} {S : ByteArray} {e : Ending} {w' : World} (h : ToldEnd w (KB F0 w) ok S e w') :
    e = .returned (.tuple #[.string (if ok = true then longP S else (ByteArray.empty, 2)).1, .int .i64 ((if ok = true then longP S else (ByteArray.empty, 2)).2 : Nat)]) ∧ KB F0 w w' := by
  rcases h with ⟨rfl, h1, h2⟩ | ⟨rfl, h1, h2⟩
  · exact ⟨h1, h2⟩
  · exact ⟨h1, h2⟩
set_option maxRecDepth 100000 in
theorem pexpr1_any (a : Option Addr) (N cap : Nat) (C : ByteArray) (w : World) (h : TxtCall 42 #[.slice a N cap, .int .i64 0] w C) : Calls Tryz.prog 41 #[.slice a N cap] w fun e w' => e = .returned (.string C) ∧ KB F0 w w' := by
  obtain ⟨w0, rfl⟩ : ∃ w0, w0 = w := ⟨_, rfl⟩
  have H := Lib.hid h
  unfold TxtCall at H
  clear h
  go_enter Tryz.func41, Tryz.ntmps41
  go_wp2_with fail
  refine H.out.mono ?_
  rintro e w2 ⟨rfl, k2⟩
  have K := Lib.hid k2
  clear k2
  go_wp2_with fail
  go_ret
  exact ⟨rfl, K.out⟩
set_option maxRecDepth 100000 in
theorem ptype1_any (a : Option Addr) (N cap : Nat) (C : ByteArray) (w : World) (h : TxtCall 45 #[.slice a N cap, .int .i64 0] w C) : Calls Tryz.prog 44 #[.slice a N cap] w fun e w' => e = .returned (.string C) ∧ KB F0 w w' := by
  obtain ⟨w0, rfl⟩ : ∃ w0, w0 = w := ⟨_, rfl⟩
  have H := Lib.hid h
  unfold TxtCall at H
  clear h
  go_enter Tryz.func44, Tryz.ntmps44
  go_wp2_with fail
  refine H.out.mono ?_
  rintro e w2 ⟨rfl, k2⟩
  have K := Lib.hid k2
  clear k2
  go_wp2_with fail
  go_ret
  exact ⟨rfl, K.out⟩
theorem szL_txt (L : List ByteArray) : (txtK L L.length).size = szL L := by rw [txtK_size L _ (Nat.le_refl _), List.take_length]
theorem tree_box (a : Option Addr) (N cap : Nat) (w : World) : KB F0 w (w.alloc (.cells #[.slice a N cap] 24)) := (KB.refl _ _).alloc _
set_option maxRecDepth 100000 in
theorem pfile_any (ts : List Nd) (hlen : ts.length < 100000000) (hok : ∀ x ∈ ts, NdOk x) (a : Option Addr) (cap : Nat) (w : World) (hts : NodesAt w a ts) (hT : PT w) :
    Calls Tryz.prog 11 #[.agg #[.slice a ts.length cap]] w fun e w' => e = .returned (.tuple #[.string (fileP ts).1, .int .i64 ((fileP ts).2 : Nat)]) ∧ KB F0 w w' := by
  obtain ⟨w0, rfl⟩ : ∃ w0, w0 = w := ⟨_, rfl⟩
  have k1 := tree_box a ts.length cap w0
  have TD := told_any ts hlen hok a cap 35 36 _ (hts.kbF k1) (hT.kb k1) (decide ((ts.getD 0 nd0).k = 1)) (txtK (linesN ts) (linesN ts).length) (KB F0 (w0.alloc (.cells #[.slice a ts.length cap] 24)))
    (fun e => by have h := tok_of e; have := lines_size h hok; have := h.len; rw [szL_txt]; omega) (fun _ W _ => pfile1_any _ W)
    (fun e1 e2 W hk => (pfile2_any ts (tok_of e1) hok a cap W (hts.kbF (k1.trans hk)) (hT.kb (k1.trans hk)) (by rw [of_decide_eq_true e2]; rfl)).mono fun e w' ⟨h1, h2⟩ => ⟨h1, hk.trans h2⟩)
    (enters Tryz.func35 (by kernel_rfl) (by kernel_rfl)) (enters Tryz.func36 (by kernel_rfl) (by kernel_rfl))
  have TD2 := TD.mono fun e w' h => toldEnd_at h
  have hE : (if (mayN ts && decide ((ts.getD 0 nd0).k = 1)) = true then longP (txtK (linesN ts) (linesN ts).length) else (ByteArray.empty, 2)) = fileP ts := by
    unfold fileP longP; rw [szL_txt]
  rw [hE] at TD2
  have H := Lib.hid TD2
  have K1 := Lib.hid k1
  generalize fileP ts = R at H ⊢
  generalize ts.length = N at H K1 ⊢
  clear TD TD2 hE hts hT hok hlen k1
  go_enter Tryz.func11, Tryz.ntmps11
  go_wp2_with fail
  refine H.out.mono ?_
  rintro e w2 ⟨rfl, k2⟩
  have K := Lib.hid (K1.out.trans k2)
  clear k2
  go_wp2_with fail
  go_ret2
  exact ⟨rfl, K.out⟩
set_option maxRecDepth 100000 in
theorem pexpr_any (ts : List Nd) (hlen : ts.length < 100000000) (hok : ∀ x ∈ ts, NdOk x) (a : Option Addr) (cap : Nat) (w : World) (hts : NodesAt w a ts) (hT : PT w) :
    Calls Tryz.prog 12 #[.agg #[.slice a ts.length cap]] w fun e w' => e = .returned (.tuple #[.string (exprP ts).1, .int .i64 ((exprP ts).2 : Nat)]) ∧ KB F0 w w' := by
  obtain ⟨w0, rfl⟩ : ∃ w0, w0 = w := ⟨_, rfl⟩
  have k1 := tree_box a ts.length cap w0
  have TD := told_any ts hlen hok a cap 40 41 _ (hts.kbF k1) (hT.kb k1) (isExprB (ts.getD 0 nd0).k) (Ex ts 0 1) (KB F0 (w0.alloc (.cells #[.slice a ts.length cap] 24)))
    (fun e => by have h := tok_of e; have := Ex_size h hok 1 h.good.1; have := wt1_pos h.good h.good.1; have := h.len; omega) (fun _ W _ => pisExpr_any _ W)
    (fun e1 e2 W hk => (pexpr1_any a ts.length cap _ W (whole_any ts (tok_of e1) hok a cap 0 W (tok_of e1).good.1 (hts.kbF (k1.trans hk)) (hT.kb (k1.trans hk)) e2)).mono fun e w' ⟨h1, h2⟩ => ⟨h1, hk.trans h2⟩)
    (enters Tryz.func40 (by kernel_rfl) (by kernel_rfl)) (enters Tryz.func41 (by kernel_rfl) (by kernel_rfl))
  have TD2 := TD.mono fun e w' h => toldEnd_at h
  have hE : (if (mayN ts && isExprB (ts.getD 0 nd0).k) = true then longP (Ex ts 0 1) else (ByteArray.empty, 2)) = exprP ts := rfl
  rw [hE] at TD2
  have H := Lib.hid TD2
  have K1 := Lib.hid k1
  generalize exprP ts = R at H ⊢
  generalize ts.length = N at H K1 ⊢
  clear TD TD2 hE hts hT hok hlen k1
  go_enter Tryz.func12, Tryz.ntmps12
  go_wp2_with fail
  refine H.out.mono ?_
  rintro e w2 ⟨rfl, k2⟩
  have K := Lib.hid (K1.out.trans k2)
  clear k2
  go_wp2_with fail
  go_ret2
  exact ⟨rfl, K.out⟩
set_option maxRecDepth 100000 in
theorem ptype_any (ts : List Nd) (hlen : ts.length < 100000000) (hok : ∀ x ∈ ts, NdOk x) (a : Option Addr) (cap : Nat) (w : World) (hts : NodesAt w a ts) (hT : PT w) :
    Calls Tryz.prog 13 #[.agg #[.slice a ts.length cap]] w fun e w' => e = .returned (.tuple #[.string (typeP ts).1, .int .i64 ((typeP ts).2 : Nat)]) ∧ KB F0 w w' := by
  obtain ⟨w0, rfl⟩ : ∃ w0, w0 = w := ⟨_, rfl⟩
  have k1 := tree_box a ts.length cap w0
  have TD := told_any ts hlen hok a cap 43 44 _ (hts.kbF k1) (hT.kb k1) (isTypeB (ts.getD 0 nd0).k) (Ty ts 0) (KB F0 (w0.alloc (.cells #[.slice a ts.length cap] 24)))
    (fun e => by have h := tok_of e; have := Ty_size h h.good.1; have := wt1_pos h.good h.good.1; have := h.len; omega) (fun _ W _ => pisType_any _ W)
    (fun e1 e2 W hk => (ptype1_any a ts.length cap _ W (kind_any5 ts (tok_of e1) a cap 0 W (tok_of e1).good.1 (hts.kbF (k1.trans hk)) e2)).mono fun e w' ⟨h1, h2⟩ => ⟨h1, hk.trans h2⟩)
    (enters Tryz.func43 (by kernel_rfl) (by kernel_rfl)) (enters Tryz.func44 (by kernel_rfl) (by kernel_rfl))
  have TD2 := TD.mono fun e w' h => toldEnd_at h
  have hE : (if (mayN ts && isTypeB (ts.getD 0 nd0).k) = true then longP (Ty ts 0) else (ByteArray.empty, 2)) = typeP ts := rfl
  rw [hE] at TD2
  have H := Lib.hid TD2
  have K1 := Lib.hid k1
  generalize typeP ts = R at H ⊢
  generalize ts.length = N at H K1 ⊢
  clear TD TD2 hE hts hT hok hlen k1
  go_enter Tryz.func13, Tryz.ntmps13
  go_wp2_with fail
  refine H.out.mono ?_
  rintro e w2 ⟨rfl, k2⟩
  have K := Lib.hid (K1.out.trans k2)
  clear k2
  go_wp2_with fail
  go_ret2
  exact ⟨rfl, K.out⟩
end Go.Proofs.YtoophdcagpfmpaaGreatDoor

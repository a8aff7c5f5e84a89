/- loanwordref03.kind, all, just. The walks of loanwordref03.Name and TypeName. What loanwordref03.fields says. -/
import Derived.Test.YtoophdcagpfmpaaGreatDoorTreeJ
import Derived.Test.YtoophdcagpfmpaaGreatDoorMg05
namespace Go.Proofs.YtoophdcagpfmpaaGreatDoor
open Go.RowKit

theorem ckind_any (k : Nat) (hk : k < 256) (w : World) : Calls Tryz.prog 150 #[.int .u8 k] w fun e w' => e = .returned (.int .i64 (100 + (k : Int))) ∧ w = w' := by
  have h1 : (k : Int) < 256 := by omega
  have hw : IntKind.i64.wrap (k : Int) = (k : Int) := w64 (by omega) (by omega)
  have hw2 : IntKind.i64.wrap (100 + (k : Int)) = 100 + (k : Int) := w64 (by omega) (by omega)
  go_enter Tryz.func150, Tryz.ntmps150
  go_wp2
  go_ret
  exact ⟨rfl, rfl⟩
/-- A class as a number. -/
def codeOf : Cls → Int
  | .ty => 1
  | .ex => 2
  | .st => 3
  | .kd [k] => 100 + (k : Int)
  | .kd _ => 0
/-- A class of one kind, or one of the three. -/
def Plain : Cls → Prop
  | .kd [k] => k < 256
  | .kd _ => False
  | _ => True
def allB (l : List Nat) (i j : Nat) (c : Cls) : Bool := (List.range' i (j - i)).all fun q => c.ok (l.getD q 0)
theorem allB_no {l : List Nat} {i j q : Nat} {c : Cls} (h1 : i ≤ q) (h2 : q < j) (h : c.ok (l.getD q 0) = false) : allB l i j c = false := by
  unfold allB; rw [List.all_eq_false]; exact ⟨q, by rw [List.mem_range'_1]; omega, by rw [h]; exact Bool.false_ne_true⟩
theorem allB_yes {l : List Nat} {i j : Nat} {c : Cls} (h : ∀ q, i ≤ q → q < j → c.ok (l.getD q 0) = true) : allB l i j c = true := by
  unfold allB; rw [List.all_eq_true]; intro q hq; rw [List.mem_range'_1] at hq; exact h q (by omega) (by omega)
set_option maxRecDepth 100000 in
set_option maxHeartbeats 2000000 in
theorem all_ty (a : Option Addr) (l : List Nat) (cap i j : Nat) (w : World) (hl : l.length ≤ 9223372036854775807) (hj : j ≤ l.length) (hij : i ≤ j) (hb : ∀ y ∈ l, y < 256) (ha : KindsAt w a l) :
    Calls Tryz.prog 149 #[.slice a l.length cap, .int .i64 i, .int .i64 j, .int .i64 (1)] w fun e w' => e = .returned (.bool (allB l i j (.ty))) ∧ w = w' := by
  obtain ⟨r, hr⟩ : ∃ r, r = allB l i j (.ty) := ⟨_, rfl⟩
  rw [← hr]
  have HR := Lib.hid hr
  have Ha := Lib.hid ha
  have Hb := Lib.hid hb
  clear hr ha hb
  obtain ⟨N, hN⟩ : ∃ N, N = l.length := ⟨_, rfl⟩
  rw [← hN] at hl hj ⊢
  have HN := Lib.hid hN
  clear hN
  go_enter Tryz.func149, Tryz.ntmps149
  go_wp2_with fail
  go_loop [9] (fun iv => ∃ q : Nat, i ≤ q ∧ q ≤ j ∧ iv = .int .i64 q ∧ Hid (∀ p, i ≤ p → p < q → (.ty : Cls).ok (l.getD p 0) = true)) (fun iv => j - (intOf iv).toNat)
  case atStart => exact ⟨i, Nat.le_refl _, hij, rfl, fun p h1 h2 => by omega⟩
  case round =>
    obtain ⟨q, hq1, hq2, rfl, hall⟩ := hrel
    by_cases hlt : q < j
    · obtain ⟨b, off, rfl, hc⟩ := Ha.out q (by rw [← HN.out]; omega)
      have hy256 := Hb.out _ (getD_mem (l := l) (k := q) (by rw [← HN.out]; omega))
      have hno : Hid ((.ty : Cls).ok (l.getD q 0) = false → r = false) := Lib.hid fun h => by rw [HR.out]; exact allB_no hq1 hlt h
      have hyes : Hid ((.ty : Cls).ok (l.getD q 0) = true → ∀ p, i ≤ p → p < q + 1 → (.ty : Cls).ok (l.getD p 0) = true) := Lib.hid fun h p h1 h2 => by
        by_cases e : p = q
        · subst e; exact h
        · exact hall.out p h1 (by omega)
      have hqN : q < N := by omega
      have hyw : ∀ z : Nat, z < 256 → IntKind.i64.wrap (z : Int) = (z : Int) := fun z hz => w64 (by omega) (by omega)
      generalize l.getD q 0 = y at hc hno hyes hy256
      have hyw' := hyw y hy256
      have hyi : (y : Int) < 256 := by omega
      clear hall hyw
      have Hc := Lib.hid (cisType_any y w)
      cases hok : (isTypeB y)
      · have hr := Lib.hid (hno.out hok)
        rw [hok] at Hc
        clear hok hno hyes
        go_wp2_with fail
        refine Hc.out.mono ?_
        rintro e w' ⟨rfl, rfl⟩
        go_wp2
        go_ret
        exact ⟨ret_eq (by rw [hr.out]; rfl), rfl⟩
      · have hj' := Lib.hid (hyes.out hok)
        rw [hok] at Hc
        clear hok hno hyes
        go_wp2_with fail
        refine Hc.out.mono ?_
        rintro e w' ⟨rfl, rfl⟩
        go_wp2
        go_round
        case rel => exact ⟨q + 1, by omega, by omega, by go_num, hj'⟩
        case measure => simp [intOf]; omega
    · obtain rfl : j = q := by omega
      have hr : Hid (r = true) := Lib.hid (by rw [HR.out]; exact allB_yes hall.out)
      go_wp2
      go_ret
      exact ⟨ret_eq (by rw [hr.out]; rfl), rfl⟩
set_option maxRecDepth 100000 in
set_option maxHeartbeats 2000000 in
theorem all_ex (a : Option Addr) (l : List Nat) (cap i j : Nat) (w : World) (hl : l.length ≤ 9223372036854775807) (hj : j ≤ l.length) (hij : i ≤ j) (hb : ∀ y ∈ l, y < 256) (ha : KindsAt w a l) :
    Calls Tryz.prog 149 #[.slice a l.length cap, .int .i64 i, .int .i64 j, .int .i64 (2)] w fun e w' => e = .returned (.bool (allB l i j (.ex))) ∧ w = w' := by
  obtain ⟨r, hr⟩ : ∃ r, r = allB l i j (.ex) := ⟨_, rfl⟩
  rw [← hr]
  have HR := Lib.hid hr
  have Ha := Lib.hid ha
  have Hb := Lib.hid hb
  clear hr ha hb
  obtain ⟨N, hN⟩ : ∃ N, N = l.length := ⟨_, rfl⟩
  rw [← hN] at hl hj ⊢
  have HN := Lib.hid hN
  clear hN
  go_enter Tryz.func149, Tryz.ntmps149
  go_wp2_with fail
  go_loop [9] (fun iv => ∃ q : Nat, i ≤ q ∧ q ≤ j ∧ iv = .int .i64 q ∧ Hid (∀ p, i ≤ p → p < q → (.ex : Cls).ok (l.getD p 0) = true)) (fun iv => j - (intOf iv).toNat)
  case atStart => exact ⟨i, Nat.le_refl _, hij, rfl, fun p h1 h2 => by omega⟩
  case round =>
    obtain ⟨q, hq1, hq2, rfl, hall⟩ := hrel
    by_cases hlt : q < j
    · obtain ⟨b, off, rfl, hc⟩ := Ha.out q (by rw [← HN.out]; omega)
      have hy256 := Hb.out _ (getD_mem (l := l) (k := q) (by rw [← HN.out]; omega))
      have hno : Hid ((.ex : Cls).ok (l.getD q 0) = false → r = false) := Lib.hid fun h => by rw [HR.out]; exact allB_no hq1 hlt h
      have hyes : Hid ((.ex : Cls).ok (l.getD q 0) = true → ∀ p, i ≤ p → p < q + 1 → (.ex : Cls).ok (l.getD p 0) = true) := Lib.hid fun h p h1 h2 => by
        by_cases e : p = q
        · subst e; exact h
        · exact hall.out p h1 (by omega)
      have hqN : q < N := by omega
      have hyw : ∀ z : Nat, z < 256 → IntKind.i64.wrap (z : Int) = (z : Int) := fun z hz => w64 (by omega) (by omega)
      generalize l.getD q 0 = y at hc hno hyes hy256
      have hyw' := hyw y hy256
      have hyi : (y : Int) < 256 := by omega
      clear hall hyw
      have Hc := Lib.hid (cisExpr_any y w)
      cases hok : (isExprB y)
      · have hr := Lib.hid (hno.out hok)
        rw [hok] at Hc
        clear hok hno hyes
        go_wp2_with fail
        refine Hc.out.mono ?_
        rintro e w' ⟨rfl, rfl⟩
        go_wp2
        go_ret
        exact ⟨ret_eq (by rw [hr.out]; rfl), rfl⟩
      · have hj' := Lib.hid (hyes.out hok)
        rw [hok] at Hc
        clear hok hno hyes
        go_wp2_with fail
        refine Hc.out.mono ?_
        rintro e w' ⟨rfl, rfl⟩
        go_wp2
        go_round
        case rel => exact ⟨q + 1, by omega, by omega, by go_num, hj'⟩
        case measure => simp [intOf]; omega
    · obtain rfl : j = q := by omega
      have hr : Hid (r = true) := Lib.hid (by rw [HR.out]; exact allB_yes hall.out)
      go_wp2
      go_ret
      exact ⟨ret_eq (by rw [hr.out]; rfl), rfl⟩
set_option maxRecDepth 100000 in
set_option maxHeartbeats 2000000 in
theorem all_st (a : Option Addr) (l : List Nat) (cap i j : Nat) (w : World) (hl : l.length ≤ 9223372036854775807) (hj : j ≤ l.length) (hij : i ≤ j) (hb : ∀ y ∈ l, y < 256) (ha : KindsAt w a l) :
    Calls Tryz.prog 149 #[.slice a l.length cap, .int .i64 i, .int .i64 j, .int .i64 (3)] w fun e w' => e = .returned (.bool (allB l i j (.st))) ∧ w = w' := by
  obtain ⟨r, hr⟩ : ∃ r, r = allB l i j (.st) := ⟨_, rfl⟩
  rw [← hr]
  have HR := Lib.hid hr
  have Ha := Lib.hid ha
  have Hb := Lib.hid hb
  clear hr ha hb
  obtain ⟨N, hN⟩ : ∃ N, N = l.length := ⟨_, rfl⟩
  rw [← hN] at hl hj ⊢
  have HN := Lib.hid hN
  clear hN
  go_enter Tryz.func149, Tryz.ntmps149
  go_wp2_with fail
  go_loop [9] (fun iv => ∃ q : Nat, i ≤ q ∧ q ≤ j ∧ iv = .int .i64 q ∧ Hid (∀ p, i ≤ p → p < q → (.st : Cls).ok (l.getD p 0) = true)) (fun iv => j - (intOf iv).toNat)
  case atStart => exact ⟨i, Nat.le_refl _, hij, rfl, fun p h1 h2 => by omega⟩
  case round =>
    obtain ⟨q, hq1, hq2, rfl, hall⟩ := hrel
    by_cases hlt : q < j
    · obtain ⟨b, off, rfl, hc⟩ := Ha.out q (by rw [← HN.out]; omega)
      have hy256 := Hb.out _ (getD_mem (l := l) (k := q) (by rw [← HN.out]; omega))
      have hno : Hid ((.st : Cls).ok (l.getD q 0) = false → r = false) := Lib.hid fun h => by rw [HR.out]; exact allB_no hq1 hlt h
      have hyes : Hid ((.st : Cls).ok (l.getD q 0) = true → ∀ p, i ≤ p → p < q + 1 → (.st : Cls).ok (l.getD p 0) = true) := Lib.hid fun h p h1 h2 => by
        by_cases e : p = q
        · subst e; exact h
        · exact hall.out p h1 (by omega)
      have hqN : q < N := by omega
      have hyw : ∀ z : Nat, z < 256 → IntKind.i64.wrap (z : Int) = (z : Int) := fun z hz => w64 (by omega) (by omega)
      generalize l.getD q 0 = y at hc hno hyes hy256
      have hyw' := hyw y hy256
      have hyi : (y : Int) < 256 := by omega
      clear hall hyw
      have Hc := Lib.hid (cisStmt_any y w)
      cases hok : (isStmtB y)
      · have hr := Lib.hid (hno.out hok)
        rw [hok] at Hc
        clear hok hno hyes
        go_wp2_with fail
        refine Hc.out.mono ?_
        rintro e w' ⟨rfl, rfl⟩
        go_wp2
        go_ret
        exact ⟨ret_eq (by rw [hr.out]; rfl), rfl⟩
      · have hj' := Lib.hid (hyes.out hok)
        rw [hok] at Hc
        clear hok hno hyes
        go_wp2_with fail
        refine Hc.out.mono ?_
        rintro e w' ⟨rfl, rfl⟩
        go_wp2
        go_round
        case rel => exact ⟨q + 1, by omega, by omega, by go_num, hj'⟩
        case measure => simp [intOf]; omega
    · obtain rfl : j = q := by omega
      have hr : Hid (r = true) := Lib.hid (by rw [HR.out]; exact allB_yes hall.out)
      go_wp2
      go_ret
      exact ⟨ret_eq (by rw [hr.out]; rfl), rfl⟩
set_option maxRecDepth 100000 in
set_option maxHeartbeats 2000000 in
theorem all_kd (a : Option Addr) (l : List Nat) (cap i j : Nat) (k : Nat) (hk : k < 256) (w : World) (hl : l.length ≤ 9223372036854775807) (hj : j ≤ l.length) (hij : i ≤ j) (hb : ∀ y ∈ l, y < 256) (ha : KindsAt w a l) :
    Calls Tryz.prog 149 #[.slice a l.length cap, .int .i64 i, .int .i64 j, .int .i64 (100 + (k : Int))] w fun e w' => e = .returned (.bool (allB l i j (.kd [k]))) ∧ w = w' := by
  obtain ⟨r, hr⟩ : ∃ r, r = allB l i j (.kd [k]) := ⟨_, rfl⟩
  rw [← hr]
  have HR := Lib.hid hr
  have Ha := Lib.hid ha
  have Hb := Lib.hid hb
  clear hr ha hb
  obtain ⟨N, hN⟩ : ∃ N, N = l.length := ⟨_, rfl⟩
  rw [← hN] at hl hj ⊢
  have HN := Lib.hid hN
  clear hN
  have k1 : ((100 + (k : Int)) == 1) = false := by simp; omega
  have k2 : ((100 + (k : Int)) == 2) = false := by simp; omega
  have k3 : ((100 + (k : Int)) == 3) = false := by simp; omega
  have kw : IntKind.i64.wrap (100 + (k : Int) - 100) = (k : Int) := by rw [w64 (by omega) (by omega)]; omega
  have ku : 100 + (k : Int) - 100 = (k : Int) := by omega
  have EQ : Hid (∀ y : Nat, y < 256 → ((y : Int) == (k : Int)) = (Cls.kd [k]).ok y) := Lib.hid (fun y _ => by simp only [Cls.ok, List.any_cons, List.any_nil, Bool.or_false]; rw [Bool.eq_iff_iff]; simp; omega)
  go_enter Tryz.func149, Tryz.ntmps149
  go_wp2_with fail
  go_loop [9] (fun iv => ∃ q : Nat, i ≤ q ∧ q ≤ j ∧ iv = .int .i64 q ∧ Hid (∀ p, i ≤ p → p < q → (.kd [k] : Cls).ok (l.getD p 0) = true)) (fun iv => j - (intOf iv).toNat)
  case atStart => exact ⟨i, Nat.le_refl _, hij, rfl, fun p h1 h2 => by omega⟩
  case round =>
    obtain ⟨q, hq1, hq2, rfl, hall⟩ := hrel
    by_cases hlt : q < j
    · obtain ⟨b, off, rfl, hc⟩ := Ha.out q (by rw [← HN.out]; omega)
      have hy256 := Hb.out _ (getD_mem (l := l) (k := q) (by rw [← HN.out]; omega))
      have hno : Hid ((.kd [k] : Cls).ok (l.getD q 0) = false → r = false) := Lib.hid fun h => by rw [HR.out]; exact allB_no hq1 hlt h
      have hyes : Hid ((.kd [k] : Cls).ok (l.getD q 0) = true → ∀ p, i ≤ p → p < q + 1 → (.kd [k] : Cls).ok (l.getD p 0) = true) := Lib.hid fun h p h1 h2 => by
        by_cases e : p = q
        · subst e; exact h
        · exact hall.out p h1 (by omega)
      have hqN : q < N := by omega
      have hyw : ∀ z : Nat, z < 256 → IntKind.i64.wrap (z : Int) = (z : Int) := fun z hz => w64 (by omega) (by omega)
      generalize l.getD q 0 = y at hc hno hyes hy256
      have hyw' := hyw y hy256
      have hyi : (y : Int) < 256 := by omega
      clear hall hyw
      cases hok : ((Cls.kd [k]).ok y)
      · have hr := Lib.hid (hno.out hok)
        have t9 := EQ.out y hy256
        rw [hok] at t9
        clear hok hno hyes
        go_wp2
        skip
        go_ret
        exact ⟨ret_eq (by rw [hr.out]; rfl), rfl⟩
      · have hj' := Lib.hid (hyes.out hok)
        have t9 := EQ.out y hy256
        rw [hok] at t9
        clear hok hno hyes
        go_wp2
        skip
        go_round
        case rel => exact ⟨q + 1, by omega, by omega, by go_num, hj'⟩
        case measure => simp [intOf]; omega
    · obtain rfl : j = q := by omega
      have hr : Hid (r = true) := Lib.hid (by rw [HR.out]; exact allB_yes hall.out)
      go_wp2
      go_ret
      exact ⟨ret_eq (by rw [hr.out]; rfl), rfl⟩

theorem call_any (a : Option Addr) (l : List Nat) (cap i j : Nat) (c : Cls) (hc : Plain c) (w : World) (hl : l.length ≤ 9223372036854775807) (hj : j ≤ l.length) (hij : i ≤ j) (hb : ∀ y ∈ l, y < 256) (ha : KindsAt w a l) :
    Calls Tryz.prog 149 #[.slice a l.length cap, .int .i64 i, .int .i64 j, .int .i64 (codeOf c)] w fun e w' => e = .returned (.bool (allB l i j c)) ∧ w = w' := by
  match c, hc with
  | .ty, _ => exact all_ty a l cap i j w hl hj hij hb ha
  | .ex, _ => exact all_ex a l cap i j w hl hj hij hb ha
  | .st, _ => exact all_st a l cap i j w hl hj hij hb ha
  | .kd [k], hk => exact all_kd a l cap i j k hk w hl hj hij hb ha
def codesAt (w : World) (a : Option Addr) (cs : List Cls) : Prop := IntsAt w a (cs.map codeOf)
theorem allB_one {l : List Nat} {i : Nat} {c : Cls} : allB l i (i + 1) c = c.ok (l.getD i 0) := by
  unfold allB; rw [show i + 1 - i = 1 by omega]; simp [List.range']
set_option maxRecDepth 100000 in
set_option maxHeartbeats 2000000 in
theorem cjust_any (a a2 : Option Addr) (l : List Nat) (cs : List Cls) (m cap cap2 : Nat) (hm : m = cs.length) (hp : ∀ c ∈ cs, Plain c) (w : World) (hl : l.length ≤ 9223372036854775806) (hl2 : cs.length ≤ 9223372036854775807) (hb : ∀ y ∈ l, y < 256) (ha : KindsAt w a l) (hc : codesAt w a2 cs) :
    Calls Tryz.prog 151 #[.slice a l.length cap, .slice a2 m cap2] w fun e w' => e = .returned (.bool (justB l cs)) ∧ w = w' := by
  obtain ⟨r, hr⟩ : ∃ r, r = justB l cs := ⟨_, rfl⟩
  rw [← hr]
  have Hr : Hid (r = (decide (l.length = cs.length) && (List.range cs.length).all (justF l cs))) := Lib.hid hr
  have Hcall := Lib.hid (fun i c (hi : i < l.length) (h : Plain c) => call_any a l cap i (i + 1) c h w (by omega) (by omega) (by omega) hb ha)
  have Hc := Lib.hid hc
  have Hp := Lib.hid hp
  clear hr ha hc hp hb
  obtain ⟨n, hn⟩ : ∃ n, n = l.length := ⟨_, rfl⟩
  rw [← hn] at hl ⊢
  rw [← hm] at hl2
  have Hn := Lib.hid hn
  have Hm := Lib.hid hm
  clear hn hm
  by_cases hnm : n = m
  · have hr : Hid (r = (List.range cs.length).all (justF l cs)) := Lib.hid (by rw [Hr.out, ← Hn.out, ← Hm.out]; simp [hnm])
    have t0 : ((n : Int) != (m : Int)) = false := by simp [hnm]
    have Hnm := Lib.hid hnm
    clear hnm
    go_enter Tryz.func151, Tryz.ntmps151
    go_wp2_with fail
    go_loop [5] (fun i => ∃ k : Nat, k ≤ n ∧ i = .int .i64 k ∧ Hid (∀ j, j < k → justF l cs j = true)) (fun i => n - (intOf i).toNat)
    case atStart => exact ⟨0, by omega, rfl, fun j hj => by omega⟩
    case round =>
      obtain ⟨k, hk, rfl, hj⟩ := hrel
      by_cases hlt : k < n
      · have hkm : k < cs.length := by rw [← Hm.out, ← Hnm.out]; exact hlt
        obtain ⟨b2, off2, rfl, hc2⟩ := Hc.out k (by rw [List.length_map]; exact hkm)
        have hcd : (cs.map codeOf).getD k 0 = codeOf (cs.getD k .ty) := by simp [List.getD_eq_getElem?_getD, hkm]
        rw [hcd] at hc2
        have hkm' : k < m := by have := Hnm.out; omega
        have hpl := Hp.out (cs.getD k .ty) (by rw [List.getD_eq_getElem?_getD, List.getElem?_eq_getElem hkm]; exact List.getElem_mem hkm)
        have hcall := Hcall.out k (cs.getD k .ty) (by rw [← Hn.out]; exact hlt) hpl
        rw [allB_one, ← Hn.out] at hcall
        have hf : Hid (justF l cs k = (cs.getD k .ty).ok (l.getD k 0)) := Lib.hid rfl
        rw [← hf.out] at hcall
        have hno : Hid (justF l cs k = false → r = false) := Lib.hid fun h => by
          rw [hr.out, List.all_eq_false]; exact ⟨k, by rw [List.mem_range]; exact hkm, by simp [h]⟩
        have hyes : Hid (justF l cs k = true → ∀ j, j < k + 1 → justF l cs j = true) := Lib.hid fun h j hj2 => by
          by_cases e : j = k
          · subst e; exact h
          · exact hj.out j (by omega)
        push_cast at hcall
        have HC := Lib.hid hcall
        clear hj hcd hpl hcall hf hkm
        generalize justF l cs k = q at HC hno hyes
        generalize codeOf (cs.getD k .ty) = cd at HC hc2
        cases q
        · have hr := Lib.hid (hno.out rfl)
          go_wp2_with fail
          refine HC.out.mono ?_
          rintro e w' ⟨rfl, rfl⟩
          go_wp2
          go_ret
          exact ⟨ret_eq (by rw [hr.out]; rfl), rfl⟩
        · have hj' := Lib.hid (hyes.out rfl)
          go_wp2_with fail
          refine HC.out.mono ?_
          rintro e w' ⟨rfl, rfl⟩
          go_wp2
          go_round
          case rel => exact ⟨k + 1, by omega, by go_num, hj'⟩
          case measure => simp [intOf]; omega
      · obtain rfl : n = k := by omega
        have hr2 : Hid (r = true) := Lib.hid (by rw [hr.out, List.all_eq_true]; intro j hj2; exact hj.out j (by rw [Hnm.out, Hm.out]; simpa using hj2))
        go_wp2
        go_ret
        exact ⟨ret_eq (by rw [hr2.out]; rfl), rfl⟩
  · have hr : Hid (r = false) := Lib.hid (by rw [Hr.out, ← Hn.out, ← Hm.out]; simp [hnm])
    have t0 : ((n : Int) != (m : Int)) = true := by simp; omega
    clear hnm
    go_enter Tryz.func151, Tryz.ntmps151
    go_wp2
    go_ret
    exact ⟨ret_eq (by rw [hr.out]; rfl), rfl⟩
end Go.Proofs.YtoophdcagpfmpaaGreatDoor

namespace Go.Proofs.YtoophdcagpfmpaaGreatDoor
open Go.RowKit

theorem letters_no {first all : Nat → Bool} {s : ByteArray} {k : Nat} (hk : k < s.size) (h : (k = 0 ∧ first (byteAt s 0) = false) ∨ all (byteAt s k) = false) : lettersB first all s = false := by
  unfold lettersB
  rcases h with ⟨rfl, h⟩ | h
  · simp [h]
  · have : ((List.range s.size).all fun k => all (byteAt s k)) = false := by
      rw [List.all_eq_false]; exact ⟨k, by simpa using hk, by simp [h]⟩
    rw [this, Bool.and_false]
theorem letters_yes {first all : Nat → Bool} {s : ByteArray} (h0 : 0 < s.size → first (byteAt s 0) = true) (h : ∀ j, j < s.size → all (byteAt s j) = true) :
    lettersB first all s = (decide (1 ≤ s.size) && decide (s.size ≤ 32)) := by
  unfold lettersB
  have : ((List.range s.size).all fun k => all (byteAt s k)) = true := by
    rw [List.all_eq_true]; intro j hj; exact h j (by simpa using hj)
  rw [this, Bool.and_true]
  by_cases h1 : 0 < s.size
  · rw [h0 h1, Bool.and_true]
  · simp [show ¬ 1 ≤ s.size by omega]

set_option maxRecDepth 100000 in
set_option maxHeartbeats 2000000 in
theorem cname_any (s : ByteArray) (w : World) (hs : s.size ≤ 9223372036854775807) :
    Calls Tryz.prog 147 #[.string s] w fun e w' => e = .returned (.bool (nameB s)) ∧ w = w' := by
  obtain ⟨r, hr⟩ : ∃ r, r = nameB s := ⟨_, rfl⟩
  have Hr : Hid (r = (lettersB smallB plainB s && !kwB s)) := Lib.hid hr
  rw [← hr]
  clear hr
  go_enter Tryz.func147, Tryz.ntmps147
  go_wp2_with fail
  go_loop [3] (fun i => ∃ k : Nat, k ≤ s.size ∧ i = .int .i64 k ∧ Hid (∀ j, j < k → (smallB (byteAt s j) || (decide (j ≠ 0) && otherB (byteAt s j))) = true)) (fun i => s.size - (intOf i).toNat)
  case atStart => exact ⟨0, by omega, rfl, fun j hj => by omega⟩
  case round =>
    obtain ⟨k, hk, rfl, hj⟩ := hrel
    by_cases hlt : k < s.size
    · have hbk := byteAt_eq s k hlt
      have Hs := Lib.hid (csmall_any (byteAt s k))
      have Ho := Lib.hid (cother_any (byteAt s k))
      have hno : Hid ((k = 0 ∧ smallB (byteAt s k) = false) ∨ (smallB (byteAt s k) = false ∧ otherB (byteAt s k) = false) → r = false) := Lib.hid fun h => by
        rw [Hr.out, letters_no hlt, Bool.false_and]
        rcases h with ⟨rfl, h⟩ | ⟨h, h'⟩
        · exact .inl ⟨rfl, h⟩
        · right; unfold plainB; rw [h, h']; rfl
      have hyes : Hid ((smallB (byteAt s k) || (decide (k ≠ 0) && otherB (byteAt s k))) = true → ∀ j, j < k + 1 → (smallB (byteAt s j) || (decide (j ≠ 0) && otherB (byteAt s j))) = true) := Lib.hid fun h j hj2 => by
        by_cases e : j = k
        · subst e; exact h
        · exact hj.out j (by omega)
      clear hj
      generalize smallB (byteAt s k) = b0 at Hs hno hyes
      generalize otherB (byteAt s k) = b1 at Ho hno hyes
      cases b0
      · by_cases hk0 : k = 0
        · subst hk0
          have hr := Lib.hid (hno.out (.inl ⟨rfl, rfl⟩))
          push_cast
          go_wp2_with fail
          refine (Hs.out _).mono ?_
          rintro e w' ⟨rfl, rfl⟩
          go_wp2
          go_ret
          exact ⟨ret_eq (by rw [hr.out]; rfl), rfl⟩
        · have t0 : ((k : Int) == 0) = false := by simp; omega
          cases b1
          · have hr := Lib.hid (hno.out (.inr ⟨rfl, rfl⟩))
            clear hk0
            go_wp2_with fail
            refine (Hs.out _).mono ?_
            rintro e w' ⟨rfl, rfl⟩
            go_wp2_with fail
            refine (Ho.out _).mono ?_
            rintro e w' ⟨rfl, rfl⟩
            go_wp2
            go_ret
            exact ⟨ret_eq (by rw [hr.out]; rfl), rfl⟩
          · have hr := Lib.hid (hyes.out (by simp [hk0]))
            clear hk0
            go_wp2_with fail
            refine (Hs.out _).mono ?_
            rintro e w' ⟨rfl, rfl⟩
            go_wp2_with fail
            refine (Ho.out _).mono ?_
            rintro e w' ⟨rfl, rfl⟩
            go_wp2
            go_round
            case rel => exact ⟨k + 1, by omega, by go_num, hr⟩
            case measure => simp [intOf]; omega
      · have hr := Lib.hid (hyes.out rfl)
        go_wp2_with fail
        refine (Hs.out _).mono ?_
        rintro e w' ⟨rfl, rfl⟩
        go_wp2
        go_round
        case rel => exact ⟨k + 1, by omega, by go_num, hr⟩
        case measure => simp [intOf]; omega
    · obtain rfl : k = s.size := by omega
      have hl : Hid (lettersB smallB plainB s = (decide (1 ≤ s.size) && decide (s.size ≤ 32))) := Lib.hid (letters_yes
        (fun h => by have := hj.out 0 h; simpa using this) (fun j hj2 => by
          have := hj.out j hj2
          unfold plainB
          cases h1 : smallB (byteAt s j)
          · rw [h1] at this; simp at this; simp [this.2]
          · rfl))
      have t1 := dle1 (k := 1) (c := s.size) (m := 1) rfl
      have t2 := dle2 (k := 32) (c := s.size) (m := 32) rfl
      have Hk := Lib.hid (ckeyword_any s)
      clear hj
      generalize kwB s = b3 at Hk Hr
      generalize decide (1 ≤ s.size) = b1 at t1 hl
      generalize decide (s.size ≤ 32) = b2 at t2 hl
      cases b1
      · go_wp2
        go_ret
        exact ⟨ret_eq (by rw [Hr.out, hl.out]; rfl), rfl⟩
      · cases b2
        · go_wp2
          go_ret
          exact ⟨ret_eq (by rw [Hr.out, hl.out]; rfl), rfl⟩
        · go_wp2_with fail
          refine (Hk.out _).mono ?_
          rintro e w' ⟨rfl, rfl⟩
          go_wp2
          go_ret
          exact ⟨ret_eq (by rw [Hr.out, hl.out]; rfl), rfl⟩

set_option maxRecDepth 100000 in
set_option maxHeartbeats 2000000 in
theorem ctypeName_any (s : ByteArray) (w : World) (hs : s.size ≤ 9223372036854775807) :
    Calls Tryz.prog 146 #[.string s] w fun e w' => e = .returned (.bool (typeNameB s)) ∧ w = w' := by
  obtain ⟨r, hr⟩ : ∃ r, r = typeNameB s := ⟨_, rfl⟩
  have Hr : Hid (r = (lettersB greatB wideB s && !(s.toList == [66, 111, 120]))) := Lib.hid hr
  rw [← hr]
  clear hr
  go_enter Tryz.func146, Tryz.ntmps146
  go_wp2_with fail
  go_loop [3] (fun i => ∃ k : Nat, k ≤ s.size ∧ i = .int .i64 k ∧ Hid (∀ j, j < k → (greatB (byteAt s j) || (decide (j ≠ 0) && (smallB (byteAt s j) || otherB (byteAt s j)))) = true)) (fun i => s.size - (intOf i).toNat)
  case atStart => exact ⟨0, by omega, rfl, fun j hj => by omega⟩
  case round =>
    obtain ⟨k, hk, rfl, hj⟩ := hrel
    by_cases hlt : k < s.size
    · have hbk := byteAt_eq s k hlt
      have Hg := Lib.hid (cgreat_any (byteAt s k))
      have Hs := Lib.hid (csmall_any (byteAt s k))
      have Ho := Lib.hid (cother_any (byteAt s k))
      have hno : Hid ((k = 0 ∧ greatB (byteAt s k) = false) ∨ (greatB (byteAt s k) = false ∧ smallB (byteAt s k) = false ∧ otherB (byteAt s k) = false) → r = false) := Lib.hid fun h => by
        rw [Hr.out, letters_no hlt, Bool.false_and]
        rcases h with ⟨rfl, h⟩ | ⟨h, h', h''⟩
        · exact .inl ⟨rfl, h⟩
        · right; unfold wideB plainB; rw [h, h', h'']; rfl
      have hyes : Hid ((greatB (byteAt s k) || (decide (k ≠ 0) && (smallB (byteAt s k) || otherB (byteAt s k)))) = true → ∀ j, j < k + 1 → (greatB (byteAt s j) || (decide (j ≠ 0) && (smallB (byteAt s j) || otherB (byteAt s j)))) = true) := Lib.hid fun h j hj2 => by
        by_cases e : j = k
        · subst e; exact h
        · exact hj.out j (by omega)
      clear hj
      generalize greatB (byteAt s k) = b0 at Hg hno hyes
      generalize smallB (byteAt s k) = b1 at Hs hno hyes
      generalize otherB (byteAt s k) = b2 at Ho hno hyes
      cases b0
      · by_cases hk0 : k = 0
        · subst hk0
          have hr := Lib.hid (hno.out (.inl ⟨rfl, rfl⟩))
          push_cast
          go_wp2_with fail
          refine (Hg.out _).mono ?_
          rintro e w' ⟨rfl, rfl⟩
          go_wp2
          go_ret
          exact ⟨ret_eq (by rw [hr.out]; rfl), rfl⟩
        · have t0 : ((k : Int) == 0) = false := by simp; omega
          cases b1
          · cases b2
            · have hr := Lib.hid (hno.out (.inr ⟨rfl, rfl, rfl⟩))
              clear hk0
              go_wp2_with fail
              refine (Hg.out _).mono ?_
              rintro e w' ⟨rfl, rfl⟩
              go_wp2_with fail
              refine (Hs.out _).mono ?_
              rintro e w' ⟨rfl, rfl⟩
              go_wp2_with fail
              refine (Ho.out _).mono ?_
              rintro e w' ⟨rfl, rfl⟩
              go_wp2
              go_ret
              exact ⟨ret_eq (by rw [hr.out]; rfl), rfl⟩
            · have hr := Lib.hid (hyes.out (by simp [hk0]))
              clear hk0
              go_wp2_with fail
              refine (Hg.out _).mono ?_
              rintro e w' ⟨rfl, rfl⟩
              go_wp2_with fail
              refine (Hs.out _).mono ?_
              rintro e w' ⟨rfl, rfl⟩
              go_wp2_with fail
              refine (Ho.out _).mono ?_
              rintro e w' ⟨rfl, rfl⟩
              go_wp2
              go_round
              case rel => exact ⟨k + 1, by omega, by go_num, hr⟩
              case measure => simp [intOf]; omega
          · have hr := Lib.hid (hyes.out (by simp [hk0]))
            clear hk0
            go_wp2_with fail
            refine (Hg.out _).mono ?_
            rintro e w' ⟨rfl, rfl⟩
            go_wp2_with fail
            refine (Hs.out _).mono ?_
            rintro e w' ⟨rfl, rfl⟩
            go_wp2
            go_round
            case rel => exact ⟨k + 1, by omega, by go_num, hr⟩
            case measure => simp [intOf]; omega
      · have hr := Lib.hid (hyes.out rfl)
        go_wp2_with fail
        refine (Hg.out _).mono ?_
        rintro e w' ⟨rfl, rfl⟩
        go_wp2
        go_round
        case rel => exact ⟨k + 1, by omega, by go_num, hr⟩
        case measure => simp [intOf]; omega
    · obtain rfl : k = s.size := by omega
      have hl : Hid (lettersB greatB wideB s = (decide (1 ≤ s.size) && decide (s.size ≤ 32))) := Lib.hid (letters_yes
        (fun h => by have := hj.out 0 h; simpa using this) (fun j hj2 => by
          have := hj.out j hj2
          unfold wideB plainB
          cases h1 : greatB (byteAt s j)
          · rw [h1] at this; simp at this; simp [this.2]
          · simp))
      have t1 := dle1 (k := 1) (c := s.size) (m := 1) rfl
      have t2 := dle2 (k := 32) (c := s.size) (m := 32) rfl
      clear hj
      obtain ⟨b3, hb3⟩ : ∃ b3, (s.toList == [66, 111, 120]) = b3 := ⟨_, rfl⟩
      rw [hb3] at Hr
      generalize decide (1 ≤ s.size) = b1 at t1 hl
      generalize decide (s.size ≤ 32) = b2 at t2 hl
      cases b1 <;> cases b2 <;> cases b3
      all_goals
        go_wp2
        go_ret
        exact ⟨ret_eq (by rw [Hr.out, hl.out]; rfl), rfl⟩
end Go.Proofs.YtoophdcagpfmpaaGreatDoor

namespace Go.Proofs.YtoophdcagpfmpaaGreatDoor
open Go.RowKit
def fieldsB (k : Nat) (at_ n : Int) (s : ByteArray) : Bool :=
  (askR k n s []).2.1 && (decide ((askR k n s []).2.2.1 ≤ n) && decide (n ≤ (askR k n s []).2.2.2)) && decide (0 ≤ at_) && decide (1 ≤ k) && decide (k ≤ 37)
theorem eq00 (n : Int) : (decide ((0 : Int) ≤ n) && decide (n ≤ (0 : Int))) = (n == 0) := by rw [Bool.eq_iff_iff]; simp; omega
theorem eq01 (n : Int) : (decide ((0 : Int) ≤ n) && decide (n ≤ (1 : Int))) = ((n == 0) || (n == 1)) := by rw [Bool.eq_iff_iff]; simp; omega
end Go.Proofs.YtoophdcagpfmpaaGreatDoor

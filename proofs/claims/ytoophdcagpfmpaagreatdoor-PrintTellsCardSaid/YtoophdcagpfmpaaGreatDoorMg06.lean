/- Classes of kinds as function values: tree.kind, asked, just. tree.just. What a node of each kind asks (the law), and contracts in the form in which the two great switches take them. -/
import Derived.Test.YtoophdcagpfmpaaGreatDoorMg05
import Derived.Test.YtoophdcagpfmpaaGreatDoorMg03
namespace Go.Proofs.YtoophdcagpfmpaaGreatDoor
open Go.RowKit

/-- A class. -/
inductive Cls where
  | ty | ex | st
  | kd (l : List Nat)
def Cls.ok : Cls → Nat → Bool
  | .ty => isTypeB
  | .ex => isExprB
  | .st => isStmtB
  | .kd l => fun k => l.any fun y => y == k
/-- A function value is a class. -/
def ClsV (w : World) (v : Value) : Cls → Prop
  | .ty => v = .func (.func 157) #[] #[]
  | .ex => v = .func (.func 158) #[] #[]
  | .st => v = .func (.func 154) #[] #[]
  | .kd l => ∃ b a c, v = .func (.func 188) #[] #[.pointer (some ⟨b, 0, none⟩)] ∧ w.cell? ⟨b, 0, none⟩ = some (.slice a l.length c) ∧ KindsAt w a l ∧ l.length ≤ 100
theorem ClsV.kb {w w' : World} {v : Value} {c : Cls} (h : ClsV w v c) (hk : KB (fun _ => False) w w') : ClsV w' v c := by
  cases c with
  | ty => exact h
  | ex => exact h
  | st => exact h
  | kd l =>
    obtain ⟨b, a, c, h1, h2, h3, h4⟩ := h
    exact ⟨b, a, c, h1, hk.cell (p := ⟨b, 0, none⟩) (fun x => x) h2, h3.kbF hk, h4⟩

theorem kind_any (a : Option Addr) (n c : Nat) (w : World) :
    Calls Tryz.prog 159 #[.slice a n c] w fun e w' => e = .returned (.func (.func 188) #[] #[.pointer (some ⟨w.heap.size, 0, none⟩)]) ∧ w' = w.alloc (.cells #[.slice a n c] 150) := by
  go_enter Tryz.func159, Tryz.ntmps159
  go_wp2
  go_ret
  exact ⟨rfl, rfl⟩
theorem kind1_any (b : Nat) (a : Option Addr) (l : List Nat) (c x : Nat) (w : World) (hb : w.cell? ⟨b, 0, none⟩ = some (.slice a l.length c)) (ha : KindsAt w a l) (hl : l.length ≤ 9223372036854775807) :
    Calls Tryz.prog 188 #[.int .u8 x, .pointer (some ⟨b, 0, none⟩)] w fun e w' => e = .returned (.bool (l.any fun y => y == x)) ∧ w = w' := by
  have Hc := Lib.hid (containsK_any a l c x w hl ha)
  obtain ⟨r, hr⟩ : ∃ r, r = l.any fun y => y == x := ⟨_, rfl⟩
  rw [← hr] at Hc ⊢
  obtain ⟨n, hn⟩ : ∃ n, n = l.length := ⟨_, rfl⟩
  rw [← hn] at Hc hb
  clear ha hl hn hr
  go_enter Tryz.func188, Tryz.ntmps188
  go_wp2_with fail
  refine Hc.out.mono ?_
  rintro e w' ⟨rfl, rfl⟩
  go_wp2
  go_ret
  exact ⟨rfl, rfl⟩

set_option maxHeartbeats 1000000 in
theorem asked1_any (b : Nat) (v : Value) (c : Cls) (x : Nat) (w : World) (hb : w.cell? ⟨b, 0, none⟩ = some v) (hv : ClsV w v c) :
    Calls Tryz.prog 183 #[.int .u8 x, .pointer (some ⟨b, 0, none⟩)] w fun e w' => e = .returned (.bool (!(c.ok x))) ∧ w = w' := by
  cases c with
  | ty =>
    have Hc := Lib.hid (isType_any x w)
    have hv' : v = .func (.func 157) #[] #[] := hv
    subst hv'
    show Calls _ _ _ _ fun e w' => e = .returned (.bool (!(isTypeB x))) ∧ w = w'
    generalize isTypeB x = r at Hc ⊢
    clear hv
    go_enter Tryz.func183, Tryz.ntmps183
    go_wp2_with fail
    refine Hc.out.mono ?_
    rintro e w' ⟨rfl, rfl⟩
    go_wp2
    go_ret
    exact ⟨rfl, rfl⟩
  | ex =>
    have Hc := Lib.hid (isExpr_any x w)
    have hv' : v = .func (.func 158) #[] #[] := hv
    subst hv'
    show Calls _ _ _ _ fun e w' => e = .returned (.bool (!(isExprB x))) ∧ w = w'
    generalize isExprB x = r at Hc ⊢
    clear hv
    go_enter Tryz.func183, Tryz.ntmps183
    go_wp2_with fail
    refine Hc.out.mono ?_
    rintro e w' ⟨rfl, rfl⟩
    go_wp2
    go_ret
    exact ⟨rfl, rfl⟩
  | st =>
    have Hc := Lib.hid (isStmt_any x w)
    have hv' : v = .func (.func 154) #[] #[] := hv
    subst hv'
    show Calls _ _ _ _ fun e w' => e = .returned (.bool (!(isStmtB x))) ∧ w = w'
    generalize isStmtB x = r at Hc ⊢
    clear hv
    go_enter Tryz.func183, Tryz.ntmps183
    go_wp2_with fail
    refine Hc.out.mono ?_
    rintro e w' ⟨rfl, rfl⟩
    go_wp2
    go_ret
    exact ⟨rfl, rfl⟩
  | kd l =>
    obtain ⟨kb, a, cc, rfl, h2, h3, h4⟩ := hv
    have Hc := Lib.hid (kind1_any kb a l cc x w h2 h3 (by omega))
    show Calls _ _ _ _ fun e w' => e = .returned (.bool (!(l.any fun y => y == x))) ∧ w = w'
    generalize (l.any fun y => y == x) = r at Hc ⊢
    clear h2 h3 h4
    go_enter Tryz.func183, Tryz.ntmps183
    go_wp2_with fail
    refine Hc.out.mono ?_
    rintro e w' ⟨rfl, rfl⟩
    go_wp2
    go_ret
    exact ⟨rfl, rfl⟩

theorem all_take_succ {p : Nat → Bool} {l : List Nat} {k : Nat} (h : k < l.length) : (l.take (k + 1)).all p = ((l.take k).all p && p (l.getD k 0)) := by
  rw [List.take_succ_eq_append_getElem h, List.all_append, List.getD_eq_getElem?_getD, List.getElem?_eq_getElem h]; simp
set_option maxHeartbeats 1000000 in
theorem indexF_any (a : Option Addr) (l : List Nat) (cap b : Nat) (v : Value) (c : Cls) (w : World) (hl : l.length ≤ 9223372036854775807) (ha : KindsAt w a l) (hb : w.cell? ⟨b, 0, none⟩ = some v) (hv : ClsV w v c) :
    Calls Tryz.prog 213 #[.slice a l.length cap, .func (.func 183) #[] #[.pointer (some ⟨b, 0, none⟩)]] w fun e w' => (∃ i : Int, idxV i = e ∧ Hid (decide (0 ≤ i) = !(l.all c.ok))) ∧ w = w' := by
  have Ha := Lib.hid ha
  have Hk := Lib.hid (fun x => asked1_any b v c x w hb hv)
  clear ha hb hv
  obtain ⟨n, hn⟩ : ∃ n, n = l.length := ⟨_, rfl⟩
  rw [← hn] at hl ⊢
  have Hn := Lib.hid hn
  clear hn
  go_enter Tryz.func213, Tryz.ntmps213
  go_wp2_with fail
  go_loop [8] (fun i => ∃ k : Nat, k ≤ n ∧ i = .int .i64 k ∧ Hid ((l.take k).all c.ok = true)) (fun i => n - (intOf i).toNat)
  case atStart => exact ⟨0, by omega, rfl, rfl⟩
  case round =>
    obtain ⟨k, hk, rfl, hj⟩ := hrel
    by_cases hlt : k < n
    · obtain ⟨bb, off, rfl, hc⟩ := Ha.out k (by rw [← Hn.out]; exact hlt)
      have hs := Lib.hid (all_take_succ (p := c.ok) (l := l) (k := k) (by rw [← Hn.out]; exact hlt))
      have hmem := Lib.hid (getD_mem (l := l) (k := k) (by rw [← Hn.out]; exact hlt))
      generalize l.getD k 0 = y at hc hs hmem
      have Hy := Lib.hid (Hk.out y)
      obtain ⟨r, hr⟩ : ∃ r, r = c.ok y := ⟨_, rfl⟩
      rw [← hr] at Hy
      cases r
      · have hin : Hid ((!(l.all c.ok)) = true) := Lib.hid (by
          have : l.all c.ok = false := by rw [List.all_eq_false]; exact ⟨y, hmem.out, by simp [← hr]⟩
          rw [this]; rfl)
        clear hr
        go_wp2_with fail
        refine Hy.out.mono ?_
        rintro e w' ⟨rfl, rfl⟩
        go_wp2
        go_ret
        exact ⟨⟨k, rfl, by show decide (0 ≤ (k : Int)) = _; rw [hin.out]; simp⟩, rfl⟩
      · have hj' : Hid ((l.take (k + 1)).all c.ok = true) := Lib.hid (by rw [hs.out, hj.out, ← hr]; rfl)
        clear hr
        go_wp2_with fail
        refine Hy.out.mono ?_
        rintro e w' ⟨rfl, rfl⟩
        go_wp2
        go_round
        case rel => exact ⟨k + 1, by omega, by go_num, hj'⟩
        case measure => simp [intOf]; omega
    · obtain rfl : k = n := by omega
      have hin : Hid ((!(l.all c.ok)) = false) := Lib.hid (by have := hj.out; rw [List.take_of_length_le (by rw [← Hn.out]; exact Nat.le_refl _)] at this; rw [this]; rfl)
      go_wp2
      go_ret
      exact ⟨⟨-1, rfl, by show decide (0 ≤ (-1 : Int)) = _; rw [hin.out]; rfl⟩, rfl⟩
set_option maxHeartbeats 1000000 in
theorem containsF_any (a : Option Addr) (l : List Nat) (cap b : Nat) (v : Value) (c : Cls) (w : World) (hl : l.length ≤ 9223372036854775807) (ha : KindsAt w a l) (hb : w.cell? ⟨b, 0, none⟩ = some v) (hv : ClsV w v c) :
    Calls Tryz.prog 182 #[.slice a l.length cap, .func (.func 183) #[] #[.pointer (some ⟨b, 0, none⟩)]] w fun e w' => e = .returned (.bool (!(l.all c.ok))) ∧ w = w' := by
  have Hi := Lib.hid (indexF_any a l cap b v c w hl ha hb hv)
  obtain ⟨r, hr⟩ : ∃ r, r = !(l.all c.ok) := ⟨_, rfl⟩
  rw [← hr] at Hi ⊢
  obtain ⟨n, hn⟩ : ∃ n, n = l.length := ⟨_, rfl⟩
  rw [← hn] at Hi ⊢
  clear ha hl hn hr hb hv
  go_enter Tryz.func182, Tryz.ntmps182
  go_wp2_with fail
  refine Hi.out.mono ?_
  rintro e w' ⟨⟨i, rfl, hi⟩, rfl⟩
  unfold idxV
  have t0 : decide ((0 : Int) ≤ i) = r := hi.out
  go_wp2
  go_ret
  exact ⟨rfl, rfl⟩
def askedB (l : List Nat) (low high : Int) (c : Cls) : Bool := decide (low ≤ l.length) && decide ((l.length : Int) ≤ high) && l.all c.ok
set_option maxHeartbeats 1000000 in
theorem asked_any (a : Option Addr) (l : List Nat) (cap : Nat) (low high : Int) (v : Value) (c : Cls) (w : World) (hl : l.length ≤ 9223372036854775807) (ha : KindsAt w a l) (hv : ClsV w v c) :
    Calls Tryz.prog 153 #[.slice a l.length cap, .int .i64 low, .int .i64 high, v] w fun e w' => e = .returned (.bool (askedB l low high c)) ∧ KB (fun _ => False) w w' := by
  have Hr : Hid (askedB l low high c = (decide (low ≤ l.length) && decide ((l.length : Int) ≤ high) && l.all c.ok)) := Lib.hid rfl
  obtain ⟨r, hr⟩ : ∃ r, r = askedB l low high c := ⟨_, rfl⟩
  rw [← hr] at Hr ⊢
  have ka := (KB.refl (fun _ => False) w).alloc (.cells #[v] 181)
  have Hf := Lib.hid (containsF_any a l cap w.heap.size v c (w.alloc (.cells #[v] 181)) hl (ha.kbF ka) (by have := alloc_new w (.cells #[v] 181); simp only [World.cell?, this]; rfl) (hv.kb ka))
  have hone : v.oneCell' = true := by
    cases c with
    | ty => have hv' : v = _ := hv; subst hv'; rfl
    | ex => have hv' : v = _ := hv; subst hv'; rfl
    | st => have hv' : v = _ := hv; subst hv'; rfl
    | kd l => obtain ⟨b, a, c, rfl, _⟩ := hv; rfl
  have hcells : v.cells = #[v] := by
    cases c with
    | ty => have hv' : v = _ := hv; subst hv'; rfl
    | ex => have hv' : v = _ := hv; subst hv'; rfl
    | st => have hv' : v = _ := hv; subst hv'; rfl
    | kd l => obtain ⟨b, a, c, rfl, _⟩ := hv; rfl
  obtain ⟨b1, hb1⟩ : ∃ b1, decide (low ≤ (l.length : Int)) = b1 := ⟨_, rfl⟩
  obtain ⟨b2, hb2⟩ : ∃ b2, decide ((l.length : Int) ≤ high) = b2 := ⟨_, rfl⟩
  rw [hb1, hb2] at Hr
  generalize l.all c.ok = b3 at Hr Hf
  obtain ⟨n, hn⟩ : ∃ n, n = l.length := ⟨_, rfl⟩
  rw [← hn] at hb1 hb2 Hf ⊢
  have Ka := Lib.hid ka
  clear ha hl hn hr hv ka
  cases b1
  · go_enter Tryz.func153, Tryz.ntmps153
    go_wp2
    go_ret
    exact ⟨ret_eq (by rw [Hr.out]; rfl), Ka.out⟩
  · cases b2
    · go_enter Tryz.func153, Tryz.ntmps153
      go_wp2
      go_ret
      exact ⟨ret_eq (by rw [Hr.out]; rfl), Ka.out⟩
    · go_enter Tryz.func153, Tryz.ntmps153
      go_wp2_with fail
      refine Hf.out.mono ?_
      rintro e w' ⟨rfl, rfl⟩
      go_wp2
      go_ret
      exact ⟨ret_eq (by rw [Hr.out]; cases b3 <;> rfl), Ka.out⟩
end Go.Proofs.YtoophdcagpfmpaaGreatDoor

namespace Go.Proofs.YtoophdcagpfmpaaGreatDoor
open Go.RowKit

/-- A slice of classes. -/
def ClsAt (w : World) (a : Option Addr) (cs : List Cls) : Prop :=
  ∀ k, k < cs.length → ∃ b off v, a = some ⟨b, off, none⟩ ∧ w.cell? ⟨b, off + k, none⟩ = some v ∧ ClsV w v (cs.getD k .ty)
theorem ClsAt.kb {w w' : World} {a : Option Addr} {cs : List Cls} (h : ClsAt w a cs) (hk : KB (fun _ => False) w w') : ClsAt w' a cs := by
  intro k hlt
  obtain ⟨b, off, v, ha, hc, hv⟩ := h k hlt
  exact ⟨b, off, v, ha, hk.cell (p := ⟨b, off + k, none⟩) (fun x => x) hc, hv.kb hk⟩
def justF (l : List Nat) (cs : List Cls) (k : Nat) : Bool := (cs.getD k .ty).ok (l.getD k 0)
def justB (l : List Nat) (cs : List Cls) : Bool := decide (l.length = cs.length) && (List.range cs.length).all (justF l cs)

set_option maxRecDepth 100000 in
set_option maxHeartbeats 4000000 in
theorem just_any (a a2 : Option Addr) (l : List Nat) (cs : List Cls) (cap cap2 : Nat) (w : World) (hl : l.length ≤ 9223372036854775807) (hl2 : cs.length ≤ 9223372036854775807) (ha : KindsAt w a l) (hc : ClsAt w a2 cs) :
    Calls Tryz.prog 156 #[.slice a l.length cap, .slice a2 cs.length cap2] w fun e w' => e = .returned (.bool (justB l cs)) ∧ w = w' := by
  have Hr : Hid (justB l cs = (decide (l.length = cs.length) && (List.range cs.length).all (justF l cs))) := Lib.hid rfl
  obtain ⟨r, hr⟩ : ∃ r, r = justB l cs := ⟨_, rfl⟩
  rw [← hr] at Hr ⊢
  have Ha := Lib.hid ha
  have Hc := Lib.hid hc
  clear hr ha hc
  obtain ⟨n, hn⟩ : ∃ n, n = l.length := ⟨_, rfl⟩
  obtain ⟨m, hm⟩ : ∃ m, m = cs.length := ⟨_, rfl⟩
  rw [← hn, ← hm]
  rw [← hn] at hl
  rw [← hm] at hl2
  have Hn := Lib.hid hn
  have Hm := Lib.hid hm
  clear hn hm
  by_cases hnm : n = m
  · have hr : Hid (r = (List.range cs.length).all (justF l cs)) := Lib.hid (by rw [Hr.out, ← Hn.out, ← Hm.out]; simp [hnm])
    have t0 : ((n : Int) != (m : Int)) = false := by simp [hnm]
    have Hnm := Lib.hid hnm
    clear hnm
    go_enter Tryz.func156, Tryz.ntmps156
    go_wp2_with fail
    go_loop [14] (fun i => ∃ k : Nat, k ≤ m ∧ i = .int .i64 k ∧ Hid (∀ j, j < k → justF l cs j = true)) (fun i => m - (intOf i).toNat)
    case atStart => exact ⟨0, by omega, rfl, fun j hj => by omega⟩
    case round =>
      obtain ⟨k, hk, rfl, hj⟩ := hrel
      by_cases hlt : k < m
      · obtain ⟨b, off, ha1, hc1⟩ := Ha.out k (by rw [← Hn.out, Hnm.out]; exact hlt)
        obtain ⟨b2, off2, v, ha2, hc2, hv⟩ := Hc.out k (by rw [← Hm.out]; exact hlt)
        subst ha1
        subst ha2
        have hkn : k < n := by have := Hnm.out; omega
        have hf : Hid (justF l cs k = (cs.getD k .ty).ok (l.getD k 0)) := Lib.hid rfl
        have hno : Hid (justF l cs k = false → r = false) := Lib.hid fun h => by
          rw [hr.out, List.all_eq_false]; exact ⟨k, by rw [List.mem_range, ← Hm.out]; exact hlt, by simp [h]⟩
        have hyes : Hid (justF l cs k = true → ∀ j, j < k + 1 → justF l cs j = true) := Lib.hid fun h j hj2 => by
          by_cases e : j = k
          · subst e; exact h
          · exact hj.out j (by omega)
        clear hj
        generalize justF l cs k = q at hf hno hyes
        generalize l.getD k 0 = y at hc1 hf
        generalize cs.getD k .ty = cl at hv hf
        cases cl with
        | ty =>
          have hv' : v = .func (.func 157) #[] #[] := hv
          subst hv'
          have Hcall := Lib.hid (isType_any y w)
          have hq : q = isTypeB y := hf.out
          clear hv
          rw [← hq] at Hcall
          clear hq hf
          cases q
          · have hr := Lib.hid (hno.out rfl)
            go_wp2_with fail
            refine Hcall.out.mono ?_
            rintro e w' ⟨rfl, rfl⟩
            go_wp2
            go_ret
            exact ⟨ret_eq (by rw [hr.out]; rfl), rfl⟩
          · have hj' := Lib.hid (hyes.out rfl)
            go_wp2_with fail
            refine Hcall.out.mono ?_
            rintro e w' ⟨rfl, rfl⟩
            go_wp2
            go_round
            case rel => exact ⟨k + 1, by omega, by go_num, hj'⟩
            case measure => simp [intOf]; omega
        | ex =>
          have hv' : v = .func (.func 158) #[] #[] := hv
          subst hv'
          have Hcall := Lib.hid (isExpr_any y w)
          have hq : q = isExprB y := hf.out
          clear hv
          rw [← hq] at Hcall
          clear hq hf
          cases q
          · have hr := Lib.hid (hno.out rfl)
            go_wp2_with fail
            refine Hcall.out.mono ?_
            rintro e w' ⟨rfl, rfl⟩
            go_wp2
            go_ret
            exact ⟨ret_eq (by rw [hr.out]; rfl), rfl⟩
          · have hj' := Lib.hid (hyes.out rfl)
            go_wp2_with fail
            refine Hcall.out.mono ?_
            rintro e w' ⟨rfl, rfl⟩
            go_wp2
            go_round
            case rel => exact ⟨k + 1, by omega, by go_num, hj'⟩
            case measure => simp [intOf]; omega
        | st =>
          have hv' : v = .func (.func 154) #[] #[] := hv
          subst hv'
          have Hcall := Lib.hid (isStmt_any y w)
          have hq : q = isStmtB y := hf.out
          clear hv
          rw [← hq] at Hcall
          clear hq hf
          cases q
          · have hr := Lib.hid (hno.out rfl)
            go_wp2_with fail
            refine Hcall.out.mono ?_
            rintro e w' ⟨rfl, rfl⟩
            go_wp2
            go_ret
            exact ⟨ret_eq (by rw [hr.out]; rfl), rfl⟩
          · have hj' := Lib.hid (hyes.out rfl)
            go_wp2_with fail
            refine Hcall.out.mono ?_
            rintro e w' ⟨rfl, rfl⟩
            go_wp2
            go_round
            case rel => exact ⟨k + 1, by omega, by go_num, hj'⟩
            case measure => simp [intOf]; omega
        | kd kl =>
          obtain ⟨kb, ka, kc, rfl, hk2, hk3, hk4⟩ := hv
          have Hcall := Lib.hid (kind1_any kb ka kl kc y w hk2 hk3 (by omega))
          have hq : q = (kl.any fun z => z == y) := hf.out
          clear hk2 hk3 hk4
          rw [← hq] at Hcall
          clear hq hf
          cases q
          · have hr := Lib.hid (hno.out rfl)
            go_wp2_with fail
            refine Hcall.out.mono ?_
            rintro e w' ⟨rfl, rfl⟩
            go_wp2
            go_ret
            exact ⟨ret_eq (by rw [hr.out]; rfl), rfl⟩
          · have hj' := Lib.hid (hyes.out rfl)
            go_wp2_with fail
            refine Hcall.out.mono ?_
            rintro e w' ⟨rfl, rfl⟩
            go_wp2
            go_round
            case rel => exact ⟨k + 1, by omega, by go_num, hj'⟩
            case measure => simp [intOf]; omega
      · obtain rfl : k = m := by omega
        have hr2 : Hid (r = true) := Lib.hid (by rw [hr.out, List.all_eq_true]; intro j hj2; exact hj.out j (by rw [Hm.out]; simpa using hj2))
        go_wp2
        go_ret
        exact ⟨ret_eq (by rw [hr2.out]; rfl), rfl⟩
  · have hr : Hid (r = false) := Lib.hid (by rw [Hr.out, ← Hn.out, ← Hm.out]; simp [hnm])
    have t0 : ((n : Int) != (m : Int)) = true := by simp; omega
    clear hnm
    go_enter Tryz.func156, Tryz.ntmps156
    go_wp2
    go_ret
    exact ⟨ret_eq (by rw [hr.out]; rfl), rfl⟩
end Go.Proofs.YtoophdcagpfmpaaGreatDoor

namespace Go.Proofs.YtoophdcagpfmpaaGreatDoor
open Go.RowKit

/-- A node. -/
structure Nd where
  k : Nat
  at_ : Int
  n : Int
  s : ByteArray
  l : List Int
def emptyB (s : ByteArray) : Bool := s.toList.isEmpty
def len0B (l : List Nat) : Bool := decide (l.length = 0)
/-- The children of an NFn: so many lifetimes, parameters, a type, a block. -/
def fnB (n : Int) (l : List Nat) : Bool :=
  let k := (max 0 (min n 8)).toNat
  if k + 2 ≤ l.length then
    askedB (l.take k) 0 16384 (.kd [5]) && (askedB ((l.drop k).take (l.length - 2 - k)) 0 8 (.kd [7]) && justB (l.drop (l.length - 2)) [.ty, .kd [13]])
  else false
/-- Whether the children are as asked; whether the text is; the least and the greatest number. -/
def askR (k : Nat) (n : Int) (s : ByteArray) (l : List Nat) : Bool × Bool × Int × Int :=
  match k with
  | 1 => (askedB l 0 16384 (.kd [2, 4]), emptyB s, 0, 0)
  | 2 => (askedB l 1 8 (.kd [3]), typeNameB s, 0, 0)
  | 3 => (justB l [.ty], nameB s, 0, 0)
  | 4 => (fnB n l, nameB s, 0, 8)
  | 5 => (askedB l 0 8 (.kd [6]), nameB s, 0, 0)
  | 6 => (len0B l, nameB s, 0, 0)
  | 7 => (justB l [.ty], nameB s, 0, 0)
  | 8 => (len0B l, emptyB s, 0, 0)
  | 9 => (len0B l, emptyB s, 0, 0)
  | 10 => (justB l [.ty], emptyB s, 0, 0)
  | 11 => (justB l [.ty], emptyB s || nameB s, 0, 1)
  | 12 => (len0B l, typeNameB s, 0, 0)
  | 13 => (askedB l 0 16384 .st, emptyB s, 0, 0)
  | 14 => (if n = 1 then justB l [.ty] else if n = 2 then justB l [.ex] else justB l [.ty, .ex], nameB s, 1, 3)
  | 15 => (justB l [.ex, .ex], emptyB s, 0, 0)
  | 16 => (decide (n = 0) && justB l [.ex, .kd [13]] || decide (n = 1) && justB l [.ex, .kd [13], .kd [13, 16]], emptyB s, 0, 1)
  | 17 => (justB l [.ex, .kd [13]], emptyB s, 0, 0)
  | 18 => (justB l [.kd [13]], emptyB s, 0, 0)
  | 19 => (len0B l, emptyB s, 0, 0)
  | 20 => (len0B l, emptyB s, 0, 0)
  | 21 => (justB l [.ex], emptyB s, 0, 0)
  | 22 => (justB l [.ex], emptyB s, 0, 0)
  | 23 => (justB l [.kd [33]], emptyB s, 0, 0)
  | 24 => (len0B l, emptyB s, 0, 9223372036854775807)
  | 25 => (len0B l, emptyB s, 0, 1)
  | 26 => (len0B l, nameB s, 0, 0)
  | 27 => (justB l [.ex], nameB s, 0, 0)
  | 28 => (justB l [.ex], emptyB s, 0, 0)
  | 29 => (justB l [.ex], emptyB s, 0, 1)
  | 30 => (justB l [.ex], emptyB s, 0, 0)
  | 31 => (justB l [.ex], emptyB s, 0, 0)
  | 32 => (justB l [.ex, .ex], sgB s, 0, 0)
  | 33 => (askedB l 0 8 .ex, nameB s, 0, 0)
  | 34 => (askedB l 1 8 (.kd [35]), typeNameB s, 0, 0)
  | 35 => (justB l [.ex], nameB s, 0, 0)
  | 36 => (justB l [.ex], emptyB s, 0, 0)
  | 37 => (len0B l, emptyB s, 0, 0)
  | _ => (false, emptyB s, 0, 0)
def askB (k : Nat) (n : Int) (s : ByteArray) (l : List Nat) : Bool :=
  (askR k n s l).1 && (askR k n s l).2.1 && decide ((askR k n s l).2.2.1 ≤ n) && decide (n ≤ (askR k n s l).2.2.2)

def u8s (ks : List Nat) : Array Value := (ks.map fun k => Value.int .u8 (k : Nat)).toArray
theorem kindsAt_row {w : World} {b : Nat} {ks : List Nat} {t : TypeId} (h : w.heap[b]? = some (.cells (u8s ks) t (0, 0))) : KindsAt w (some ⟨b, 0, none⟩) ks := by
  intro k hk
  refine ⟨b, 0, rfl, ?_⟩
  simp only [World.cell?, h, Nat.zero_add]
  simp [u8s, hk, List.getD_eq_getElem?_getD]
theorem kindCall {nb c : Nat} {ks : List Nat} (w : World) (hl : ks.length ≤ 100) (h : w.heap[nb]? = some (.cells (u8s ks) 41 (0, 0))) :
    Calls Tryz.prog 159 #[.slice (some ⟨nb, 0, none⟩) ks.length c] w fun e w' => ∃ b, e = .returned (.func (.func 188) #[] #[.pointer (some ⟨b, 0, none⟩)]) ∧ ClsV w' (.func (.func 188) #[] #[.pointer (some ⟨b, 0, none⟩)]) (.kd ks) ∧ KB F0 w w' := by
  refine (kind_any _ _ _ _).mono ?_
  rintro e w' ⟨rfl, rfl⟩
  have ka := (KB.refl F0 w).alloc (.cells #[.slice (some ⟨nb, 0, none⟩) ks.length c] 150)
  refine ⟨_, rfl, ⟨_, _, c, rfl, ?_, (kindsAt_row h).kbF ka, hl⟩, ka⟩
  have := alloc_new w (.cells #[.slice (some ⟨nb, 0, none⟩) ks.length c] 150)
  simp only [World.cell?, this]; rfl
theorem clsat_new {W : World} (vs : List Value) (cs : List Cls) (hl : vs.length = cs.length) (h : ∀ i, i < cs.length → ClsV W (vs.getD i undef) (cs.getD i .ty)) :
    ClsAt (W.alloc (.cells vs.toArray 181)) (some ⟨W.heap.size, 0, none⟩) cs := by
  intro k hk
  refine ⟨W.heap.size, 0, vs.getD k undef, rfl, ?_, (h k hk).kb ((KB.refl _ _).alloc _)⟩
  have := alloc_new W (.cells vs.toArray 181)
  simp only [World.cell?, this, Nat.zero_add]
  simp [List.getD_eq_getElem?_getD, show k < vs.length by omega]
theorem clsat1 {W : World} {v : Value} {c : Cls} (h : ClsV W v c) : ClsAt (W.alloc (.cells #[v] 181)) (some ⟨W.heap.size, 0, none⟩) [c] :=
  clsat_new [v] [c] rfl (fun i hi => by
    obtain rfl : i = 0 := by simp at hi; omega
    exact h)
theorem clsat2 {W : World} {v v' : Value} {c c' : Cls} (h : ClsV W v c) (h' : ClsV W v' c') : ClsAt (W.alloc (.cells #[v, v'] 181)) (some ⟨W.heap.size, 0, none⟩) [c, c'] :=
  clsat_new [v, v'] [c, c'] rfl (fun i hi => by
    simp only [List.length_cons, List.length_nil] at hi
    obtain rfl | rfl : i = 0 ∨ i = 1 := by omega
    · exact h
    · exact h')
theorem clsat3 {W : World} {v v' v'' : Value} {c c' c'' : Cls} (h : ClsV W v c) (h' : ClsV W v' c') (h'' : ClsV W v'' c'') : ClsAt (W.alloc (.cells #[v, v', v''] 181)) (some ⟨W.heap.size, 0, none⟩) [c, c', c''] :=
  clsat_new [v, v', v''] [c, c', c''] rfl (fun i hi => by
    simp only [List.length_cons, List.length_nil] at hi
    obtain rfl | rfl | rfl : i = 0 ∨ i = 1 ∨ i = 2 := by omega
    · exact h
    · exact h'
    · exact h'')
theorem justV (a a2 : Option Addr) (l : List Nat) (cs : List Cls) (cap cap2 : Nat) (w : World) (hl : l.length ≤ 9223372036854775807) (hl2 : cs.length ≤ 9223372036854775807) (ha : KindsAt w a l) (hc : ClsAt w a2 cs) :
    Calls Tryz.prog 156 #[.slice a l.length cap, .slice a2 cs.length cap2] w fun e w' => e = .returned (.bool (justB l cs)) ∧ KB F0 w w' :=
  (just_any a a2 l cs cap cap2 w hl hl2 ha hc).mono fun _ _ ⟨h1, h2⟩ => ⟨h1, by subst h2; exact KB.refl _ _⟩
theorem typeNameV (s : ByteArray) (w : World) (hs : s.size ≤ 9223372036854775807) : Calls Tryz.prog 160 #[.string s] w fun e w' => e = .returned (.bool (typeNameB s)) ∧ KB F0 w w' :=
  (typeName_any s w hs).mono fun _ _ ⟨h1, h2⟩ => ⟨h1, by subst h2; exact KB.refl _ _⟩
/-- The box of a node that is handed over. -/
theorem boxN (w : World) (ki at_ n : Int) (s : ByteArray) (la : Option Addr) (ll lc : Nat) : ∃ B0, Hid (B0 = w.alloc (.cells #[.int .u8 ki, .int .i64 at_, .int .i64 n, .string s, .slice la ll lc] 44)) ∧ KB F0 w B0 ∧
    B0.cell? ⟨w.heap.size, 0, none⟩ = some (.int .u8 ki) ∧ B0.cell? ⟨w.heap.size, 1, none⟩ = some (.int .i64 at_) ∧ B0.cell? ⟨w.heap.size, 2, none⟩ = some (.int .i64 n) ∧ B0.cell? ⟨w.heap.size, 3, none⟩ = some (.string s) ∧ Hid (w.heap.size + 1 = B0.heap.size) :=
  ⟨_, Lib.hid rfl, (KB.refl _ _).alloc _, new_cell _ _ _ 0, new_cell _ _ _ 1, new_cell _ _ _ 2, new_cell _ _ _ 3, Lib.hid (by simp)⟩
end Go.Proofs.YtoophdcagpfmpaaGreatDoor

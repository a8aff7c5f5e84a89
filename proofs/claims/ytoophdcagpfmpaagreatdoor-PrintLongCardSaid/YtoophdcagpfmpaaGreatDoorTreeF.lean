/- Classes of kinds as function values: tree.kind, asked, just. -/
import Derived.Test.YtoophdcagpfmpaaGreatDoorMg07
namespace Go.Proofs.YtoophdcagpfmpaaGreatDoor
open Go.RowKit

/-- A class. -/
inductive Cls where
  | ty | ex | st
  | kd (l : List Nat)
def Cls.ok : Cls → Nat → Bool
  | .ty => isTypeB
  | .ex => isExprB
  | .st => isStmtB
  | .kd l => fun k => l.any fun y => y == k
/-- A function value is a class. -/
def ClsV (w : World) (v : Value) : Cls → Prop
  | .ty => v = .func (.func 157) #[] #[]
  | .ex => v = .func (.func 158) #[] #[]
  | .st => v = .func (.func 154) #[] #[]
  | .kd l => ∃ b a c, v = .func (.func 188) #[] #[.pointer (some ⟨b, 0, none⟩)] ∧ w.cell? ⟨b, 0, none⟩ = some (.slice a l.length c) ∧ KindsAt w a l ∧ l.length ≤ 100
theorem ClsV.kb {w w' : World} {v : Value} {c : Cls} (h : ClsV w v c) (hk : KB (fun _ => False) w w') : ClsV w' v c := by
  cases c with
  | ty => exact h
  | ex => exact h
  | st => exact h
  | kd l =>
    obtain ⟨b, a, c, h1, h2, h3, h4⟩ := h
    exact ⟨b, a, c, h1, hk.cell (p := ⟨b, 0, none⟩) (fun x => x) h2, h3.kbF hk, h4⟩

theorem kind_any (a : Option Addr) (n c : Nat) (w : World) :
    Calls Tryz.prog 159 #[.slice a n c] w fun e w' => e = .returned (.func (.func 188) #[] #[.pointer (some ⟨w.heap.size, 0, none⟩)]) ∧ w' = w.alloc (.cells #[.slice a n c] 150) := by
  go_enter Tryz.func159, Tryz.ntmps159
  go_wp2
  go_ret
  exact ⟨rfl, rfl⟩
theorem kind1_any (b : Nat) (a : Option Addr) (l : List Nat) (c x : Nat) (w : World) (hb : w.cell? ⟨b, 0, none⟩ = some (.slice a l.length c)) (ha : KindsAt w a l) (hl : l.length ≤ 9223372036854775807) :
    Calls Tryz.prog 188 #[.int .u8 x, .pointer (some ⟨b, 0, none⟩)] w fun e w' => e = .returned (.bool (l.any fun y => y == x)) ∧ w = w' := by
  have Hc := Lib.hid (containsK_any a l c x w hl ha)
  obtain ⟨r, hr⟩ : ∃ r, r = l.any fun y => y == x := ⟨_, rfl⟩
  rw [← hr] at Hc ⊢
  obtain ⟨n, hn⟩ : ∃ n, n = l.length := ⟨_, rfl⟩
  rw [← hn] at Hc hb
  clear ha hl hn hr
  go_enter Tryz.func188, Tryz.ntmps188
  go_wp2_with fail
  refine Hc.out.mono ?_
  rintro e w' ⟨rfl, rfl⟩
  go_wp2
  go_ret
  exact ⟨rfl, rfl⟩

set_option maxHeartbeats 1000000 in
theorem asked1_any (b : Nat) (v : Value) (c : Cls) (x : Nat) (w : World) (hb : w.cell? ⟨b, 0, none⟩ = some v) (hv : ClsV w v c) :
    Calls Tryz.prog 183 #[.int .u8 x, .pointer (some ⟨b, 0, none⟩)] w fun e w' => e = .returned (.bool (!(c.ok x))) ∧ w = w' := by
  cases c with
  | ty =>
    have Hc := Lib.hid (isType_any x w)
    have hv' : v = .func (.func 157) #[] #[] := hv
    subst hv'
    show Calls _ _ _ _ fun e w' => e = .returned (.bool (!(isTypeB x))) ∧ w = w'
    generalize isTypeB x = r at Hc ⊢
    clear hv
    go_enter Tryz.func183, Tryz.ntmps183
    go_wp2_with fail
    refine Hc.out.mono ?_
    rintro e w' ⟨rfl, rfl⟩
    go_wp2
    go_ret
    exact ⟨rfl, rfl⟩
  | ex =>
    have Hc := Lib.hid (isExpr_any x w)
    have hv' : v = .func (.func 158) #[] #[] := hv
    subst hv'
    show Calls _ _ _ _ fun e w' => e = .returned (.bool (!(isExprB x))) ∧ w = w'
    generalize isExprB x = r at Hc ⊢
    clear hv
    go_enter Tryz.func183, Tryz.ntmps183
    go_wp2_with fail
    refine Hc.out.mono ?_
    rintro e w' ⟨rfl, rfl⟩
    go_wp2
    go_ret
    exact ⟨rfl, rfl⟩
  | st =>
    have Hc := Lib.hid (isStmt_any x w)
    have hv' : v = .func (.func 154) #[] #[] := hv
    subst hv'
    show Calls _ _ _ _ fun e w' => e = .returned (.bool (!(isStmtB x))) ∧ w = w'
    generalize isStmtB x = r at Hc ⊢
    clear hv
    go_enter Tryz.func183, Tryz.ntmps183
    go_wp2_with fail
    refine Hc.out.mono ?_
    rintro e w' ⟨rfl, rfl⟩
    go_wp2
    go_ret
    exact ⟨rfl, rfl⟩
  | kd l =>
    obtain ⟨kb, a, cc, rfl, h2, h3, h4⟩ := hv
    have Hc := Lib.hid (kind1_any kb a l cc x w h2 h3 (by omega))
    show Calls _ _ _ _ fun e w' => e = .returned (.bool (!(l.any fun y => y == x))) ∧ w = w'
    generalize (l.any fun y => y == x) = r at Hc ⊢
    clear h2 h3 h4
    go_enter Tryz.func183, Tryz.ntmps183
    go_wp2_with fail
    refine Hc.out.mono ?_
    rintro e w' ⟨rfl, rfl⟩
    go_wp2
    go_ret
    exact ⟨rfl, rfl⟩

theorem all_take_succ {p : Nat → Bool} {l : List Nat} {k : Nat} (h : k < l.length) : (l.take (k + 1)).all p = ((l.take k).all p && p (l.getD k 0)) := by
  rw [List.take_succ_eq_append_getElem h, List.all_append, List.getD_eq_getElem?_getD, List.getElem?_eq_getElem h]; simp
set_option maxHeartbeats 1000000 in
theorem indexF_any (a : Option Addr) (l : List Nat) (cap b : Nat) (v : Value) (c : Cls) (w : World) (hl : l.length ≤ 9223372036854775807) (ha : KindsAt w a l) (hb : w.cell? ⟨b, 0, none⟩ = some v) (hv : ClsV w v c) :
    Calls Tryz.prog 213 #[.slice a l.length cap, .func (.func 183) #[] #[.pointer (some ⟨b, 0, none⟩)]] w fun e w' => (∃ i : Int, idxV i = e ∧ Hid (decide (0 ≤ i) = !(l.all c.ok))) ∧ w = w' := by
  have Ha := Lib.hid ha
  have Hk := Lib.hid (fun x => asked1_any b v c x w hb hv)
  clear ha hb hv
  obtain ⟨n, hn⟩ : ∃ n, n = l.length := ⟨_, rfl⟩
  rw [← hn] at hl ⊢
  have Hn := Lib.hid hn
  clear hn
  go_enter Tryz.func213, Tryz.ntmps213
  go_wp2_with fail
  go_loop [8] (fun i => ∃ k : Nat, k ≤ n ∧ i = .int .i64 k ∧ Hid ((l.take k).all c.ok = true)) (fun i => n - (intOf i).toNat)
  case atStart => exact ⟨0, by omega, rfl, rfl⟩
  case round =>
    obtain ⟨k, hk, rfl, hj⟩ := hrel
    by_cases hlt : k < n
    · obtain ⟨bb, off, rfl, hc⟩ := Ha.out k (by rw [← Hn.out]; exact hlt)
      have hs := Lib.hid (all_take_succ (p := c.ok) (l := l) (k := k) (by rw [← Hn.out]; exact hlt))
      have hmem := Lib.hid (getD_mem (l := l) (k := k) (by rw [← Hn.out]; exact hlt))
      generalize l.getD k 0 = y at hc hs hmem
      have Hy := Lib.hid (Hk.out y)
      obtain ⟨r, hr⟩ : ∃ r, r = c.ok y := ⟨_, rfl⟩
      rw [← hr] at Hy
      cases r
      · have hin : Hid ((!(l.all c.ok)) = true) := Lib.hid (by
          have : l.all c.ok = false := by rw [List.all_eq_false]; exact ⟨y, hmem.out, by simp [← hr]⟩
          rw [this]; rfl)
        clear hr
        go_wp2_with fail
        refine Hy.out.mono ?_
        rintro e w' ⟨rfl, rfl⟩
        go_wp2
        go_ret
        exact ⟨⟨k, rfl, by show decide (0 ≤ (k : Int)) = _; rw [hin.out]; simp⟩, rfl⟩
      · have hj' : Hid ((l.take (k + 1)).all c.ok = true) := Lib.hid (by rw [hs.out, hj.out, ← hr]; rfl)
        clear hr
        go_wp2_with fail
        refine Hy.out.mono ?_
        rintro e w' ⟨rfl, rfl⟩
        go_wp2
        go_round
        case rel => exact ⟨k + 1, by omega, by go_num, hj'⟩
        case measure => simp [intOf]; omega
    · obtain rfl : k = n := by omega
      have hin : Hid ((!(l.all c.ok)) = false) := Lib.hid (by have := hj.out; rw [List.take_of_length_le (by rw [← Hn.out]; exact Nat.le_refl _)] at this; rw [this]; rfl)
      go_wp2
      go_ret
      exact ⟨⟨-1, rfl, by show decide (0 ≤ (-1 : Int)) = _; rw [hin.out]; rfl⟩, rfl⟩
set_option maxHeartbeats 1000000 in
theorem containsF_any (a : Option Addr) (l : List Nat) (cap b : Nat) (v : Value) (c : Cls) (w : World) (hl : l.length ≤ 9223372036854775807) (ha : KindsAt w a l) (hb : w.cell? ⟨b, 0, none⟩ = some v) (hv : ClsV w v c) :
    Calls Tryz.prog 182 #[.slice a l.length cap, .func (.func 183) #[] #[.pointer (some ⟨b, 0, none⟩)]] w fun e w' => e = .returned (.bool (!(l.all c.ok))) ∧ w = w' := by
  have Hi := Lib.hid (indexF_any a l cap b v c w hl ha hb hv)
  obtain ⟨r, hr⟩ : ∃ r, r = !(l.all c.ok) := ⟨_, rfl⟩
  rw [← hr] at Hi ⊢
  obtain ⟨n, hn⟩ : ∃ n, n = l.length := ⟨_, rfl⟩
  rw [← hn] at Hi ⊢
  clear ha hl hn hr hb hv
  go_enter Tryz.func182, Tryz.ntmps182
  go_wp2_with fail
  refine Hi.out.mono ?_
  rintro e w' ⟨⟨i, rfl, hi⟩, rfl⟩
  unfold idxV
  have t0 : decide ((0 : Int) ≤ i) = r := hi.out
  go_wp2
  go_ret
  exact ⟨rfl, rfl⟩
def askedB (l : List Nat) (low high : Int) (c : Cls) : Bool := decide (low ≤ l.length) && decide ((l.length : Int) ≤ high) && l.all c.ok
set_option maxHeartbeats 1000000 in
theorem asked_any (a : Option Addr) (l : List Nat) (cap : Nat) (low high : Int) (v : Value) (c : Cls) (w : World) (hl : l.length ≤ 9223372036854775807) (ha : KindsAt w a l) (hv : ClsV w v c) :
    Calls Tryz.prog 153 #[.slice a l.length cap, .int .i64 low, .int .i64 high, v] w fun e w' => e = .returned (.bool (askedB l low high c)) ∧ KB (fun _ => False) w w' := by
  have Hr : Hid (askedB l low high c = (decide (low ≤ l.length) && decide ((l.length : Int) ≤ high) && l.all c.ok)) := Lib.hid rfl
  obtain ⟨r, hr⟩ : ∃ r, r = askedB l low high c := ⟨_, rfl⟩
  rw [← hr] at Hr ⊢
  have ka := (KB.refl (fun _ => False) w).alloc (.cells #[v] 181)
  have Hf := Lib.hid (containsF_any a l cap w.heap.size v c (w.alloc (.cells #[v] 181)) hl (ha.kbF ka) (by have := alloc_new w (.cells #[v] 181); simp only [World.cell?, this]; rfl) (hv.kb ka))
  have hone : v.oneCell' = true := by
    cases c with
    | ty => have hv' : v = _ := hv; subst hv'; rfl
    | ex => have hv' : v = _ := hv; subst hv'; rfl
    | st => have hv' : v = _ := hv; subst hv'; rfl
    | kd l => obtain ⟨b, a, c, rfl, _⟩ := hv; rfl
  have hcells : v.cells = #[v] := by
    cases c with
    | ty => have hv' : v = _ := hv; subst hv'; rfl
    | ex => have hv' : v = _ := hv; subst hv'; rfl
    | st => have hv' : v = _ := hv; subst hv'; rfl
    | kd l => obtain ⟨b, a, c, rfl, _⟩ := hv; rfl
  obtain ⟨b1, hb1⟩ : ∃ b1, decide (low ≤ (l.length : Int)) = b1 := ⟨_, rfl⟩
  obtain ⟨b2, hb2⟩ : ∃ b2, decide ((l.length : Int) ≤ high) = b2 := ⟨_, rfl⟩
  rw [hb1, hb2] at Hr
  generalize l.all c.ok = b3 at Hr Hf
  obtain ⟨n, hn⟩ : ∃ n, n = l.length := ⟨_, rfl⟩
  rw [← hn] at hb1 hb2 Hf ⊢
  have Ka := Lib.hid ka
  clear ha hl hn hr hv ka
  cases b1
  · go_enter Tryz.func153, Tryz.ntmps153
    go_wp2
    go_ret
    exact ⟨ret_eq (by rw [Hr.out]; rfl), Ka.out⟩
  · cases b2
    · go_enter Tryz.func153, Tryz.ntmps153
      go_wp2
      go_ret
      exact ⟨ret_eq (by rw [Hr.out]; rfl), Ka.out⟩
    · go_enter Tryz.func153, Tryz.ntmps153
      go_wp2_with fail
      refine Hf.out.mono ?_
      rintro e w' ⟨rfl, rfl⟩
      go_wp2
      go_ret
      exact ⟨ret_eq (by rw [Hr.out]; cases b3 <;> rfl), Ka.out⟩
end Go.Proofs.YtoophdcagpfmpaaGreatDoor

/- The walks of tree's and loanwordref03's classes of kinds. -/
import Derived.Test.YtjefoojkgocinaaDoorTreeC
namespace Go.Proofs.YtjefoojkgocinaaDoor
open Go.RowKit

theorem dne1 {k : Int} {c : Nat} {m : Nat} (hk : k = m) : ((c : Int) != k) = !decide (c = m) := by rw [bne, deq1 hk]
def isTypeB (c : Nat) : Bool := decide (8 ≤ c) && decide (c ≤ 12)
def isExprB (c : Nat) : Bool := (decide (24 ≤ c) && decide (c ≤ 37)) && !decide (c = 35)
def isStmtB (c : Nat) : Bool := (decide (14 ≤ c) && decide (c ≤ 23)) || decide (c = 13)
theorem isType_any (c : Nat) (w : World) : Calls Tryd.prog 69 #[.int .u8 c] w fun e w' => e = .returned (.bool (isTypeB c)) ∧ w = w' := by
  have t0 := dle1 (k := 8) (c := c) (m := 8) rfl
  have t1 := dle2 (k := 12) (c := c) (m := 12) rfl
  have Hr : Hid (isTypeB c = (decide (8 ≤ c) && decide (c ≤ 12))) := Lib.hid rfl
  generalize decide (8 ≤ c) = b0 at t0 Hr
  generalize decide (c ≤ 12) = b1 at t1 Hr
  cases b0 <;> cases b1
  all_goals
    go_enter Tryd.func69, Tryd.ntmps69
    go_wp2
    go_ret
    exact ⟨ret_eq (by rw [Hr.out]; rfl), rfl⟩
theorem isExpr_any (c : Nat) (w : World) : Calls Tryd.prog 70 #[.int .u8 c] w fun e w' => e = .returned (.bool (isExprB c)) ∧ w = w' := by
  have t0 := dle1 (k := 24) (c := c) (m := 24) rfl
  have t1 := dle2 (k := 37) (c := c) (m := 37) rfl
  have t2 := dne1 (k := 35) (c := c) (m := 35) rfl
  have Hr : Hid (isExprB c = ((decide (24 ≤ c) && decide (c ≤ 37)) && !decide (c = 35))) := Lib.hid rfl
  generalize decide (24 ≤ c) = b0 at t0 Hr
  generalize decide (c ≤ 37) = b1 at t1 Hr
  generalize decide (c = 35) = b2 at t2 Hr
  cases b0 <;> cases b1 <;> cases b2
  all_goals
    go_enter Tryd.func70, Tryd.ntmps70
    go_wp2
    go_ret
    exact ⟨ret_eq (by rw [Hr.out]; rfl), rfl⟩
theorem isStmt_any (c : Nat) (w : World) : Calls Tryd.prog 67 #[.int .u8 c] w fun e w' => e = .returned (.bool (isStmtB c)) ∧ w = w' := by
  have t0 := dle1 (k := 14) (c := c) (m := 14) rfl
  have t1 := dle2 (k := 23) (c := c) (m := 23) rfl
  have t2 := deq1 (k := 13) (c := c) (m := 13) rfl
  have Hr : Hid (isStmtB c = ((decide (14 ≤ c) && decide (c ≤ 23)) || decide (c = 13))) := Lib.hid rfl
  generalize decide (14 ≤ c) = b0 at t0 Hr
  generalize decide (c ≤ 23) = b1 at t1 Hr
  generalize decide (c = 13) = b2 at t2 Hr
  cases b0 <;> cases b1 <;> cases b2
  all_goals
    go_enter Tryd.func67, Tryd.ntmps67
    go_wp2
    go_ret
    exact ⟨ret_eq (by rw [Hr.out]; rfl), rfl⟩
theorem cisType_any (c : Nat) (w : World) : Calls Tryd.prog 82 #[.int .u8 c] w fun e w' => e = .returned (.bool (isTypeB c)) ∧ w = w' := by
  have t0 := dle1 (k := 8) (c := c) (m := 8) rfl
  have t1 := dle2 (k := 12) (c := c) (m := 12) rfl
  have Hr : Hid (isTypeB c = (decide (8 ≤ c) && decide (c ≤ 12))) := Lib.hid rfl
  generalize decide (8 ≤ c) = b0 at t0 Hr
  generalize decide (c ≤ 12) = b1 at t1 Hr
  cases b0 <;> cases b1
  all_goals
    go_enter Tryd.func82, Tryd.ntmps82
    go_wp2
    go_ret
    exact ⟨ret_eq (by rw [Hr.out]; rfl), rfl⟩
theorem cisExpr_any (c : Nat) (w : World) : Calls Tryd.prog 83 #[.int .u8 c] w fun e w' => e = .returned (.bool (isExprB c)) ∧ w = w' := by
  have t0 := dle1 (k := 24) (c := c) (m := 24) rfl
  have t1 := dle2 (k := 37) (c := c) (m := 37) rfl
  have t2 := dne1 (k := 35) (c := c) (m := 35) rfl
  have Hr : Hid (isExprB c = ((decide (24 ≤ c) && decide (c ≤ 37)) && !decide (c = 35))) := Lib.hid rfl
  generalize decide (24 ≤ c) = b0 at t0 Hr
  generalize decide (c ≤ 37) = b1 at t1 Hr
  generalize decide (c = 35) = b2 at t2 Hr
  cases b0 <;> cases b1 <;> cases b2
  all_goals
    go_enter Tryd.func83, Tryd.ntmps83
    go_wp2
    go_ret
    exact ⟨ret_eq (by rw [Hr.out]; rfl), rfl⟩
theorem cisStmt_any (c : Nat) (w : World) : Calls Tryd.prog 84 #[.int .u8 c] w fun e w' => e = .returned (.bool (isStmtB c)) ∧ w = w' := by
  have t0 := dle1 (k := 14) (c := c) (m := 14) rfl
  have t1 := dle2 (k := 23) (c := c) (m := 23) rfl
  have t2 := deq1 (k := 13) (c := c) (m := 13) rfl
  have Hr : Hid (isStmtB c = ((decide (14 ≤ c) && decide (c ≤ 23)) || decide (c = 13))) := Lib.hid rfl
  generalize decide (14 ≤ c) = b0 at t0 Hr
  generalize decide (c ≤ 23) = b1 at t1 Hr
  generalize decide (c = 13) = b2 at t2 Hr
  cases b0 <;> cases b1 <;> cases b2
  all_goals
    go_enter Tryd.func84, Tryd.ntmps84
    go_wp2
    go_ret
    exact ⟨ret_eq (by rw [Hr.out]; rfl), rfl⟩

/-- A slice of kinds that reads as a list. -/
def KindsAt (w : World) (a : Option Addr) (l : List Nat) : Prop :=
  ∀ k, k < l.length → ∃ b off, a = some ⟨b, off, none⟩ ∧ w.cell? ⟨b, off + k, none⟩ = some (.int .u8 (l.getD k 0 : Nat))
theorem KindsAt.kb {S : Nat → Prop} {w w' : World} {a : Option Addr} {l : List Nat} (h : KindsAt w a l) (hk : KB S w w') (hs : ∀ b off, a = some ⟨b, off, none⟩ → ¬ S b) : KindsAt w' a l := by
  intro k hlt
  obtain ⟨b, off, ha, hc⟩ := h k hlt
  exact ⟨b, off, ha, hk.cell (hs b off ha) hc⟩
theorem KindsAt.kbF {w w' : World} {a : Option Addr} {l : List Nat} (h : KindsAt w a l) (hk : KB (fun _ => False) w w') : KindsAt w' a l := h.kb hk (fun _ _ _ x => x)
theorem getD_mem {l : List Nat} {k : Nat} (h : k < l.length) : l.getD k 0 ∈ l := by
  rw [List.getD_eq_getElem?_getD, List.getElem?_eq_getElem h]; exact List.getElem_mem h
theorem any_take_succ {p : Nat → Bool} {l : List Nat} {k : Nat} (h : k < l.length) : (l.take (k + 1)).any p = ((l.take k).any p || p (l.getD k 0)) := by
  rw [List.take_succ_eq_append_getElem h, List.any_append, List.getD_eq_getElem?_getD, List.getElem?_eq_getElem h]; simp

/-- What slices.Index answers. -/
def idxV (i : Int) : Ending := .returned (.int .i64 i)
set_option maxHeartbeats 1000000 in
theorem indexK_any (a : Option Addr) (l : List Nat) (c x : Nat) (w : World) (hl : l.length ≤ 9223372036854775807) (ha : KindsAt w a l) :
    Calls Tryd.prog 88 #[.slice a l.length c, .int .u8 x] w fun e w' => (∃ i : Int, idxV i = e ∧ Hid (decide (0 ≤ i) = l.any fun y => y == x)) ∧ w = w' := by
  have Ha := Lib.hid ha
  clear ha
  obtain ⟨n, hn⟩ : ∃ n, n = l.length := ⟨_, rfl⟩
  rw [← hn] at hl ⊢
  have Hn := Lib.hid hn
  clear hn
  go_enter Tryd.func88, Tryd.ntmps88
  go_wp2_with fail
  go_loop [8] (fun i => ∃ k : Nat, k ≤ n ∧ i = .int .i64 k ∧ Hid ((l.take k).any (fun y => y == x) = false)) (fun i => n - (intOf i).toNat)
  case atStart => exact ⟨0, by omega, rfl, rfl⟩
  case round =>
    obtain ⟨k, hk, rfl, hj⟩ := hrel
    by_cases hlt : k < n
    · obtain ⟨b, off, rfl, hc⟩ := Ha.out k (by rw [← Hn.out]; exact hlt)
      have hs := Lib.hid (any_take_succ (p := fun y => y == x) (l := l) (k := k) (by rw [← Hn.out]; exact hlt))
      have hmem := Lib.hid (getD_mem (l := l) (k := k) (by rw [← Hn.out]; exact hlt))
      generalize l.getD k 0 = y at hc hs hmem
      by_cases hy : y = x
      · have t0 : ((x : Int) == (y : Int)) = true := by simp [hy]
        have hin : Hid ((l.any fun y => y == x) = true) := Lib.hid (by rw [List.any_eq_true]; exact ⟨y, hmem.out, by simp [hy]⟩)
        clear hy
        go_wp2
        go_ret
        exact ⟨⟨k, rfl, by show decide (0 ≤ (k : Int)) = _; rw [hin.out]; simp⟩, rfl⟩
      · have t0 : ((x : Int) == (y : Int)) = false := by simp; omega
        have hj' : Hid ((l.take (k + 1)).any (fun y => y == x) = false) := Lib.hid (by rw [hs.out, hj.out]; simp [hy])
        clear hy
        go_wp2
        go_round
        case rel => exact ⟨k + 1, by omega, by go_num, hj'⟩
        case measure => simp [intOf]; omega
    · obtain rfl : k = n := by omega
      have hin : Hid ((l.any fun y => y == x) = false) := Lib.hid (by have := hj.out; rwa [List.take_of_length_le (by rw [← Hn.out]; exact Nat.le_refl _)] at this)
      go_wp2
      go_ret
      exact ⟨⟨-1, rfl, by show decide (0 ≤ (-1 : Int)) = _; rw [hin.out]; rfl⟩, rfl⟩
set_option maxHeartbeats 1000000 in
theorem containsK_any (a : Option Addr) (l : List Nat) (c x : Nat) (w : World) (hl : l.length ≤ 9223372036854775807) (ha : KindsAt w a l) :
    Calls Tryd.prog 81 #[.slice a l.length c, .int .u8 x] w fun e w' => e = .returned (.bool (l.any fun y => y == x)) ∧ w = w' := by
  have Hi := Lib.hid (indexK_any a l c x w hl ha)
  obtain ⟨r, hr⟩ : ∃ r, r = l.any fun y => y == x := ⟨_, rfl⟩
  rw [← hr] at Hi ⊢
  obtain ⟨n, hn⟩ : ∃ n, n = l.length := ⟨_, rfl⟩
  rw [← hn] at Hi ⊢
  clear ha hl hn hr
  go_enter Tryd.func81, Tryd.ntmps81
  go_wp2_with fail
  refine Hi.out.mono ?_
  rintro e w' ⟨⟨i, rfl, hi⟩, rfl⟩
  unfold idxV
  have t0 : decide ((0 : Int) ≤ i) = r := hi.out
  go_wp2
  go_ret
  exact ⟨rfl, rfl⟩
end Go.Proofs.YtjefoojkgocinaaDoor

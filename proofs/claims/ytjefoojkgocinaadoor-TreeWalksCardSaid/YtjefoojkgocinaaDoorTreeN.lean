/- Small facts for loanwordref03.children. -/
import Derived.Test.YtjefoojkgocinaaDoorTreeL
namespace Go.Proofs.YtjefoojkgocinaaDoor
open Go.RowKit
theorem codes_new {W : World} {t : TypeId} (cs : List Cls) : codesAt (W.alloc (.cells ((cs.map codeOf).map (Value.int .i64)).toArray t)) (some ⟨W.heap.size, 0, none⟩) cs := by
  intro k hk
  refine ⟨W.heap.size, 0, rfl, ?_⟩
  rw [Nat.zero_add, new_cell]
  simp only [List.length_map] at hk
  simp [List.getD_eq_getElem?_getD, hk]
theorem allB_full (l : List Nat) (c : Cls) : allB l 0 l.length c = l.all c.ok := by
  rw [Bool.eq_iff_iff]
  unfold allB
  rw [List.all_eq_true, List.all_eq_true]
  constructor
  · intro h y hy
    obtain ⟨i, hi, rfl⟩ := List.getElem_of_mem hy
    have := h i (by rw [List.mem_range'_1]; omega)
    rwa [List.getD_eq_getElem?_getD, List.getElem?_eq_getElem hi] at this
  · intro h q hq
    rw [List.mem_range'_1] at hq
    exact h _ (getD_mem (by omega))
theorem all_full (a : Option Addr) (l : List Nat) (cap : Nat) (c : Cls) (hc : Plain c) (w : World) (hl : l.length ≤ 9223372036854775807) (hb : ∀ y ∈ l, y < 256) (ha : KindsAt w a l) :
    Calls Tryd.prog 73 #[.slice a l.length cap, .int .i64 0, .int .i64 l.length, .int .i64 (codeOf c)] w fun e w' => e = .returned (.bool (l.all c.ok)) ∧ w = w' := by
  have h := call_any a l cap 0 l.length c hc w hl (Nat.le_refl _) (Nat.zero_le _) hb ha
  rw [allB_full] at h
  exact h
theorem just_or (l : List Nat) : justB l [.ex, .kd [13], .kd [13, 16]] = (justB l [.ex, .kd [13], .kd [13]] || justB l [.ex, .kd [13], .kd [16]]) := by
  unfold justB
  simp only [List.length_cons, List.length_nil, show (List.range (0 + 1 + 1 + 1)) = [0, 1, 2] from rfl, List.all_cons, List.all_nil, justF, List.getD_cons_zero, List.getD_cons_succ, Cls.ok, List.any_cons, List.any_nil, Bool.or_false, Bool.and_true]
  cases decide (l.length = 0 + 1 + 1 + 1) <;> cases isExprB (l.getD 0 0) <;> cases (13 == l.getD 1 0) <;> simp
end Go.Proofs.YtjefoojkgocinaaDoor

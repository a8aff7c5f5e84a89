/- Arrays, element by element: what == says. -/
import Derived.Test.YtnfoabccbkedgaaRegionK
import Derived.Laws.StructEq
namespace Go.Proofs.Ytnfoabccbkedgaa
open Go.RowKit

theorem forIn_all {P : Program} (w : World) (g : Nat → Sem Bool) (f : Nat → Bool) : ∀ l : List Nat, (∀ i ∈ l, (g i).run P w = .ok (f i) w) →
    Sem.run P (forIn l ((none, ()) : Option Bool × Unit) (fun i _ => do
      let b ← g i
      if (!b) = true then pure (ForInStep.done (some false, ())) else pure (ForInStep.yield (none, ())))) w = .ok (if l.all f then none else some false, ()) w
  | [], _ => by simp [Sem.run_pure]
  | i :: l, h => by
    have ih := forIn_all w g f l (fun j hj => h j (List.mem_cons_of_mem _ hj))
    have h0 := h i (List.mem_cons_self ..)
    rw [List.forIn_cons]
    simp only [Sem.run_bind, h0, Result.andThen]
    cases hf : f i
    · simp [Sem.run_pure, Result.andThen, hf]
    · simp only [Bool.not_true, Bool.false_eq_true, if_false, Sem.run_pure]
      rw [ih, List.all_cons, hf, Bool.true_and]
theorem run_equalIn_array {P : Program} (w : World) (d : Nat) (t elem : TypeId) (len n : Nat) (xs ys : Array Value) (ht : P.underlying t = some (.array len elem)) (hn : (sizeOf elem).run P w = .ok n w) (f : Nat → Bool)
    (h : ∀ i, i < len → (do let a ← Go.part elem xs (i * n); let b ← Go.part elem ys (i * n); Op.equalIn d elem a b : Sem Bool).run P w = .ok (f i) w) :
    (Op.equalIn (d + 1) t (.agg xs) (.agg ys)).run P w = .ok ((List.range' 0 len).all f) w := by
  simp only [Op.equalIn, Sem.run_bind, run_underlying ht, Result.andThen_ok, hn]
  rw [Std.Legacy.Range.forIn_eq_forIn_range']
  have e := forIn_all (P := P) w (fun i => do let a ← Go.part elem xs (i * n); let b ← Go.part elem ys (i * n); Op.equalIn d elem a b) f (List.range' 0 len) (fun i hi => h i (by simp at hi; omega))
  simp only [bind_assoc] at e
  rw [show (List.range' ([:len] : Std.Legacy.Range).start ([:len] : Std.Legacy.Range).size ([:len] : Std.Legacy.Range).step) = List.range' 0 len by simp [Std.Legacy.Range.size]]
  rw [e]
  cases (List.range' 0 len).all f <;> simp [Result.andThen, Sem.run_pure]
theorem run_part_cell {P : Program} (w : World) (e : TypeId) (xs : Array Value) (i : Nat) (v : Value) (ha : (isAgg e).run P w = .ok false w) (hv : xs[i]? = some v) : (Go.part e xs i).run P w = .ok v w := by
  simp [Go.part, ha, hv, Result.andThen, Sem.run_pure]
theorem run_part_agg {P : Program} (w : World) (e : TypeId) (xs : Array Value) (i n : Nat) (ha : (isAgg e).run P w = .ok true w) (hn : (sizeOf e).run P w = .ok n w) : (Go.part e xs i).run P w = .ok (.agg (xs.extract i (i + n))) w := by
  simp [Go.part, ha, hn, Result.andThen, Sem.run_pure]
theorem all2 (f : Nat → Bool) : (List.range' 0 2).all f = (f 0 && f 1) := by simp [List.range']
theorem pair_neq {P : Program} {tP tI : TypeId} (hP : P.underlying tP = some (.array 2 tI)) (hI : P.underlying tI = some (.int .i64)) (hn : ∀ w, (sizeOf tI).run P w = .ok 1 w) (ha : ∀ w, (isAgg tI).run P w = .ok false w)
    (a c a' c' : Int) (q : Bool) (hq : (a == a' && c == c') = q) (w : World) : (binOp BinOp.neq tP (.agg #[.int .i64 a, .int .i64 c]) (.agg #[.int .i64 a', .int .i64 c'])).run P w = .ok (.bool (!q)) w := by
  rw [run_neq_struct]
  rw [show (10000 : Nat) = 9998 + 1 + 1 from rfl]
  rw [run_equalIn_array w (9998 + 1) tP tI 2 1 _ _ hP (hn w) (fun i => if i = 0 then (a == a') else (c == c'))]
  · rw [all2]; simp only [if_true]; simp [Result.andThen, ← hq]
  · intro i hi
    obtain rfl | rfl : i = 0 ∨ i = 1 := by omega
    · simp only [Sem.run_bind]
      rw [run_part_cell w tI _ 0 (.int .i64 a) (ha w) rfl]
      simp only [Result.andThen_ok]
      rw [run_part_cell w tI _ 0 (.int .i64 a') (ha w) rfl]
      simp only [Result.andThen_ok]
      exact run_equalIn_int w 9998 tI .i64 .i64 a a' hI
    · simp only [Sem.run_bind]
      rw [run_part_cell w tI _ 1 (.int .i64 c) (ha w) rfl]
      simp only [Result.andThen_ok]
      rw [run_part_cell w tI _ 1 (.int .i64 c') (ha w) rfl]
      simp only [Result.andThen_ok]
      exact run_equalIn_int w 9998 tI .i64 .i64 c c' hI
end Go.Proofs.Ytnfoabccbkedgaa

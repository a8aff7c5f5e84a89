/- Pieces of the law HeapRuns: a whole heap of the document's copied, two of them compared. -/
import Derived.Test.YtnfoabccbkedgaaStands
import Derived.Deep.MidRow
import Derived.Deep.WholeRow
namespace Go.Proofs.Ytnfoabccbkedgaa
open Go.RowKit

theorem exec_load_row {P : Program} {o : Oper} {a : Act} {w : World} (ty : TypeId) (x : Operand) (ho : o.op = .load ty x) (g : Nat) (hx : a.eval x = .pointer (some ⟨g, 0, none⟩)) (t : TypeId) (cs : Array Value) (fr : Nat × Nat) (d : TypeDesc)
    (hg : w.heap[g]? = some (.cells cs t fr)) (hu : P.underlying ty = some d) (hd : (match d with | .struct _ | .array _ _ => true | _ => false) = true) (hi : (P.info? ty).map (·.size) = some cs.size) :
    (execOp a.eval o).run P w = .ok (.value (.agg cs)) w := by
  unfold execOp
  simp only [ho, hx, Instr.loadAt, Instr.sureAddr, Sem.run_bind, Sem.run_pure, Result.andThen_ok, run_loadVar_row w g t ty cs fr d hg hu hd hi]
theorem exec_load_mid {P : Program} {op : Oper} {a : Act} {w : World} (ty : TypeId) (x : Operand) (ho : op.op = .load ty x) (b o : Nat) (hx : a.eval x = .pointer (some ⟨b, o, none⟩)) (cs : List Value) (d : TypeDesc)
    (hc : w.rangeAt b o cs) (hu : P.underlying ty = some d) (hd : d.isRow = true) (hi : (P.info? ty).map (·.size) = some cs.length) :
    (execOp a.eval op).run P w = .ok (.value (.agg cs.toArray)) w := by
  unfold execOp
  simp only [ho, hx, Instr.loadAt, Instr.sureAddr, Sem.run_bind, Sem.run_pure, Result.andThen_ok, run_loadVar_mid w b o ty cs d hc hu hd hi]
theorem wpList_store_row {P : Program} {ops : Array Oper} {rest : List Oper} {op : Oper} {a : Act} {w : World} {Q : Exit → Act → World → Prop} (hgd : op.guard = none) (ty : TypeId) (x y : Operand) (ho : op.op = .store ty x y)
    (g : Nat) (t : TypeId) (old cells : Array Value) (hx : a.eval x = .pointer (some ⟨g, 0, none⟩)) (hy : a.eval y = .agg cells)
    (hg : w.heap[g]? = some (.cells old t (0, 0))) (hi : (P.info? ty).map (·.size) = some cells.size) (hsz : old.size = cells.size) (h1 : cells.all (·.oneCell') = true)
    (h : wpList P ops Q rest (a.put op.dst undef) (w.setRow g cells)) : wpList P ops Q (op :: rest) a w :=
  wpList_plain hgd fun K hK => by
    unfold Oper.wp execOp
    simp only [ho, hx, hy, Instr.storeAt, Instr.sureAddr, Sem.run_bind, Sem.run_pure, Result.andThen_ok, run_storeVar_row w g t ty old cells hg hi hsz h1]
    exact hK _ _ h
theorem kb_setRow (w : World) (g : Nat) (cs : Array Value) : KB (· = g) w (w.setRow g cs) :=
  ⟨rfl, rfl, rfl, by simp, fun k _ hn => setRow_other w g k cs hn⟩

/-- The first 60 cells of a heap of the document's: which blocks are taken. -/
def tcells (s : HS) : List Value := (List.range 60).map fun j => Value.bool (s.T (j / 12) (j % 12))
theorem tcells_len (s : HS) : (tcells s).length = 60 := by simp [tcells]
theorem xarr_extract (s : HS) : ((xarr s).extract 0 (0 + 60)).toList = tcells s := by
  unfold xarr tcells
  simp
theorem IX.range {w : World} {b : Nat} {s : HS} (h : IX w b s) : w.rangeAt b 0 (tcells s) := by
  have := World.rangeAt_of_block h.1 0 60
  rwa [xarr_extract] at this
theorem tcells_get (s : HS) {i j : Nat} (hi : i < 5) (hj : j < 12) : (tcells s).toArray[i * 12 + j]? = some (.bool (s.T i j)) := by
  unfold tcells
  rw [List.getElem?_toArray]
  simp [show i * 12 + j < 60 by omega, show (i * 12 + j) / 12 = i by omega, show (i * 12 + j) % 12 = j by omega]
theorem same_all (s t : HS) : (List.range' 0 5).all (fun i => (List.range' 0 12).all fun j => s.T i j == t.T i j) = s.same t := by
  unfold HS.same HS.eqc
  simp only [List.range_eq_range']
theorem taken_eql (s t : HS) (w : World) : (binOp BinOp.eql 28 (.agg (tcells s).toArray) (.agg (tcells t).toArray)).run Try.prog w = .ok (.bool (s.same t)) w := by
  rw [run_eql_struct]
  rw [show (10000 : Nat) = 9997 + 1 + 1 + 1 from rfl]
  rw [run_equalIn_array w (9997 + 1 + 1) 28 27 5 12 _ _ Try.underlying28 (by kernel_rfl) (fun i => (List.range' 0 12).all fun j => s.T i j == t.T i j)]
  · rw [same_all]; rfl
  · intro i hi
    simp only [Sem.run_bind]
    rw [run_part_agg w 27 _ (i * 12) 12 (by kernel_rfl) (by kernel_rfl)]
    simp only [Result.andThen_ok]
    rw [run_part_agg w 27 _ (i * 12) 12 (by kernel_rfl) (by kernel_rfl)]
    simp only [Result.andThen_ok]
    refine run_equalIn_array w (9997 + 1) 27 4 12 1 _ _ Try.underlying27 (by kernel_rfl) _ (fun j hj => ?_)
    have e : ∀ u : HS, ((tcells u).toArray.extract (i * 12) (i * 12 + 12))[j * 1]? = some (.bool (u.T i j)) := fun u => by
      rw [Array.getElem?_extract]
      rw [if_pos (by simp [tcells_len]; omega), Nat.mul_one, tcells_get u hi hj]
    simp only [Sem.run_bind]
    rw [run_part_cell w 4 _ (j * 1) _ (by kernel_rfl) (e s)]
    simp only [Result.andThen_ok]
    rw [run_part_cell w 4 _ (j * 1) _ (by kernel_rfl) (e t)]
    simp only [Result.andThen_ok]
    exact run_equalIn_bool' w 9997 4 _ _ Try.underlying4
theorem xarr_one (s : HS) : (xarr s).all (·.oneCell') = true := by
  rw [Array.all_eq_true_iff_forall_mem]
  intro v hv
  unfold xarr at hv
  simp only [List.mem_toArray, List.mem_append, List.mem_map] at hv
  rcases hv with ⟨j, _, rfl⟩ | ⟨j, _, rfl⟩ <;> rfl
end Go.Proofs.Ytnfoabccbkedgaa

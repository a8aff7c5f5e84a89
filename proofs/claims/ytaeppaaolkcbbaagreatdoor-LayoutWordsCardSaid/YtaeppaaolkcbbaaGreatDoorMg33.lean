/- A point loaded out of a row, a point laid in a new cell: each by one law. -/
import Derived.Test.YtaeppaaolkcbbaaGreatDoorMg27
import Derived.Deep.MidRow
import Derived.Laws.Tables
namespace Go.Proofs.YtaeppaaolkcbbaaGreatDoor
open Go.RowKit

theorem loadPtMid {ops : Array Oper} {rest : List Oper} {o : Oper} {a : Act} {Q : Exit → Act → World → Prop} {w : World} (hgd : o.guard = none) (x : Operand) (ho : o.op = .load 129 x) (b off : Nat) (hx : a.eval x = .pointer (some ⟨b, off, none⟩)) (cs : List Value) (hcs : cs.length = 21) (hc : w.rangeAt b off cs)
  (h : wpList Tryz.prog ops Q rest (a.put o.dst (.agg cs.toArray)) w) : wpList Tryz.prog ops Q (o :: rest) a w := by
 have hr := ptRow
 cases hu : Tryz.prog.underlying 129 with
 | none => rw [hu] at hr; cases hr
 | some d =>
  rw [hu] at hr
  exact wpList_load_mid hgd 129 x ho b off hx cs d hc hu (by cases d <;> first | rfl | cases hr) (by rw [ptSz, hcs]) h
theorem alloc_setRowP (w : World) (old cs : Array Value) (t : TypeId) : (w.alloc (.cells old t)).setRow w.heap.size cs = w.alloc (.cells cs t) := by
 simp only [World.setRow, World.alloc]
 congr 1
 apply Array.ext
 ·simp
 ·intro i h1 h2
  simp only [Array.size_modify, Array.size_push] at h1
  rw [Array.getElem_modify]
  by_cases h : w.heap.size = i
  ·subst h; simp
  ·rw [if_neg h, Array.getElem_push_lt (by omega), Array.getElem_push_lt (by omega)]
theorem run_alloc_row {P : Program} (w : World) (ty : TypeId) (i : TypeInfo) (z : Value) (hi : P.info? ty = some i) (hz : i.zero = some z) :
  (Instr.alloc ty true (.tuple #[])).run P w = .ok (.pointer (some ⟨w.heap.size, 0, none⟩)) (w.alloc (.cells z.cells ty)) := by
 simp [Instr.alloc, zeroValue, typeInfo, hi, hz, newVar, newRow, newObj]
 rfl
theorem wpList_allocStore {P : Program} {ops : Array Oper} {rest : List Oper} {o1 o2 : Oper} {a : Act} {w : World} {Q : Exit → Act → World → Prop} (g1 : o1.guard = none) (g2 : o2.guard = none) (ty : TypeId) (x y : Operand)
  (ho1 : o1.op = .alloc ty) (ho2 : o2.op = .store ty x y) (hd : o2.dst = none) (cs : Array Value)
  (hx : ∀ p, (a.put o1.dst p).eval x = p) (hy : ∀ p, (a.put o1.dst p).eval y = .agg cs)
  (hz : ((P.info? ty).bind fun i => i.zero.map fun z => (i.size, z.cells.size)) = some (cs.size, cs.size)) (h1 : cs.all (·.oneCell') = true)
  (h : wpList P ops Q rest (a.put o1.dst (.pointer (some ⟨w.heap.size, 0, none⟩))) (w.alloc (.cells cs ty))) : wpList P ops Q (o1 :: o2 :: rest) a w := by
 cases hi : P.info? ty with
 | none => rw [hi] at hz; cases hz
 | some i =>
  rw [hi] at hz
  cases hzz : i.zero with
  | none => simp [hzz] at hz
  | some z =>
   simp only [hzz, Option.bind_some, Option.map_some, Option.some.injEq, Prod.mk.injEq] at hz
   refine wpList_plain g1 fun K hK => ?_
   unfold Oper.wp
   rw [show (execOp a.eval o1).run P w = .ok (.value (.pointer (some ⟨w.heap.size, 0, none⟩))) (w.alloc (.cells z.cells ty)) by
    unfold execOp
    simp only [ho1, Sem.run_bind, run_alloc_row w ty i z hi hzz, Result.andThen_ok, Sem.run_pure]]
   rw [Oper.upon_value]
   refine hK _ _ ?_
   refine wpList_store_row g2 ty x y ho2 w.heap.size cs (hx _) (hy _) ty z.cells (by show (w.heap.push _)[w.heap.size]? = some _; simp) (by rw [hi]; exact congrArg some hz.1) hz.2 h1 ?_
   rw [alloc_setRowP, hd]
   exact h
theorem ptZ : ((Tryz.prog.info? 129).bind fun i => i.zero.map fun z => (i.size, z.cells.size)) = some (21, 21) := by kernel_rfl
theorem layPt {ops : Array Oper} {rest : List Oper} {o1 o2 : Oper} {a : Act} {w : World} {Q : Exit → Act → World → Prop} (g1 : o1.guard = none) (g2 : o2.guard = none) (x y : Operand)
  (ho1 : o1.op = .alloc 129) (ho2 : o2.op = .store 129 x y) (hd : o2.dst = none) (cs : Array Value) (hs : cs.size = 21) (h1 : cs.all (·.oneCell') = true)
  (hx : ∀ p, (a.put o1.dst p).eval x = p) (hy : ∀ p, (a.put o1.dst p).eval y = .agg cs)
  (h : wpList Tryz.prog ops Q rest (a.put o1.dst (.pointer (some ⟨w.heap.size, 0, none⟩))) (w.alloc (.cells cs 129))) : wpList Tryz.prog ops Q (o1 :: o2 :: rest) a w :=
 wpList_allocStore g1 g2 129 x y ho1 ho2 hd cs hx hy (by rw [hs]; exact ptZ) h1 h
theorem layPtA {ops : Array Oper} {rest : List Oper} {o1 om o2 : Oper} {a : Act} {w : World} {Q : Exit → Act → World → Prop} (g1 : o1.guard = none) (gm : om.guard = none) (g2 : o2.guard = none) (x ym y : Operand)
  (ho1 : o1.op = .alloc 129) (hom : om.op = .assign ym) (ho2 : o2.op = .store 129 x y) (hd : o2.dst = none) (cs : Array Value) (hs : cs.size = 21) (h1 : cs.all (·.oneCell') = true) (v : Value)
  (hv : ∀ p, (a.put o1.dst p).eval ym = v) (hx : ∀ p, ((a.put o1.dst p).put om.dst v).eval x = p) (hy : ∀ p, ((a.put o1.dst p).put om.dst v).eval y = .agg cs)
  (h : wpList Tryz.prog ops Q rest ((a.put o1.dst (.pointer (some ⟨w.heap.size, 0, none⟩))).put om.dst v) (w.alloc (.cells cs 129))) : wpList Tryz.prog ops Q (o1 :: om :: o2 :: rest) a w := by
 have hz := ptZ
 cases hi : Tryz.prog.info? 129 with
 | none => rw [hi] at hz; cases hz
 | some i =>
  rw [hi] at hz
  cases hzz : i.zero with
  | none => simp [hzz] at hz
  | some z =>
   simp only [hzz, Option.bind_some, Option.map_some, Option.some.injEq, Prod.mk.injEq] at hz
   refine wpList_plain g1 fun K hK => ?_
   unfold Oper.wp
   rw [show (execOp a.eval o1).run Tryz.prog w = .ok (.value (.pointer (some ⟨w.heap.size, 0, none⟩))) (w.alloc (.cells z.cells 129)) by
    unfold execOp
    simp only [ho1, Sem.run_bind, run_alloc_row w 129 i z hi hzz, Result.andThen_ok, Sem.run_pure]]
   rw [Oper.upon_value]
   refine hK _ _ ?_
   refine wpList_plain gm fun K hK => ?_
   unfold Oper.wp
   rw [show ∀ w', (execOp (a.put o1.dst (.pointer (some ⟨w.heap.size, 0, none⟩))).eval om).run Tryz.prog w' = .ok (.value v) w' by
    intro w'
    unfold execOp
    simp only [hom, Sem.run_pure, hv]]
   rw [Oper.upon_value]
   refine hK _ _ ?_
   refine wpList_store_row g2 129 x y ho2 w.heap.size cs (hx _) (hy _) 129 z.cells (by show (w.heap.push _)[w.heap.size]? = some _; simp) (by rw [hi, hs]; exact congrArg some hz.1) (by rw [hs]; exact hz.2) h1 ?_
   rw [alloc_setRowP, hd]
   exact h
theorem atLoadPt (x : Operand) {ops : Array Oper} {rest : List Oper} {dst : Option Tmp} {ty : TypeId} {pos : String} {af : Array Edge} {gd : Option (Nat × Bool)} {a : Act} {Q : Exit → Act → World → Prop} {w : World}
  (h : wpList Tryz.prog ops Q (⟨dst, Op.load 129 x, ty, pos, af, gd⟩ :: rest) a w) : wpList Tryz.prog ops Q (⟨dst, Op.load 129 x, ty, pos, af, gd⟩ :: rest) a w := h
theorem atAllocPt {ops : Array Oper} {rest : List Oper} {dst : Option Tmp} {ty : TypeId} {pos : String} {af : Array Edge} {gd : Option (Nat × Bool)} {a : Act} {Q : Exit → Act → World → Prop} {w : World}
  (h : wpList Tryz.prog ops Q (⟨dst, Op.alloc 129, ty, pos, af, gd⟩ :: rest) a w) : wpList Tryz.prog ops Q (⟨dst, Op.alloc 129, ty, pos, af, gd⟩ :: rest) a w := h
theorem ptD_one (p : Pt) (d : PtA) : (ptD p d).all (·.oneCell') = true := by kernel_rfl
end Go.Proofs.YtaeppaaolkcbbaaGreatDoor

/- Steps copied: slices.Clone, append; place.cut. -/
import Derived.Test.YtpigppghcghpbaaGreatDoorPlG
import Derived.Laws.AppendOwnNone
namespace Go.Proofs.YtpigppghcghpbaaGreatDoor
open Go.RowKit

def ints (l : List Int) : List Value := l.map (Value.int .i64)
theorem ints_len (l : List Int) : (ints l).length = l.length := by simp [ints]
theorem ints_get {l : List Int} {i : Nat} (h : i < l.length) : (ints l)[i]? = some (.int .i64 (l.getD i 0)) := by
  simp [ints, List.getD_eq_getElem?_getD, List.getElem?_eq_getElem h]
theorem ints_one {l : List Int} : ∀ u ∈ ints l, u.oneCell' = true := fun u hu => by
  obtain ⟨x, -, rfl⟩ := List.mem_map.1 hu
  rfl
theorem ints_app (a b : List Int) : ints (a ++ b) = ints a ++ ints b := by simp [ints]
theorem Tryz.infoStep : (Tryz.prog.info? 56).map (fun i => (i.zero, i.size, i.bytes)) = some (some (.int .i64 0), 1, 8) := by kernel_rfl
theorem Tryz.infoPlace : (Tryz.prog.info? 26).map (fun i => (i.zero, i.size, i.bytes)) = some (some (.agg #[.int .i64 0, .slice none 0 0]), 2, 32) := by kernel_rfl
/-- Steps in memory of their own, from block B on. -/
def OwnI (w : World) (B : Nat) (v : Value) (xs : List Int) : Prop := w.ownsRow B 56 1 v xs.length (ints xs)
theorem OwnI.kb {w w' : World} {B : Nat} {v : Value} {xs : List Int} (h : OwnI w B v xs) {S : Nat → Prop} (hk : KB S w w') (hS : ∀ g, v.ownBlock = some g → ¬ S g) : OwnI w' B v xs := own_kb h hk hS
theorem OwnI.kbF {w w' : World} {B : Nat} {v : Value} {xs : List Int} (h : OwnI w B v xs) (hk : KB F0 w w') : OwnI w' B v xs := h.kb hk (fun _ _ x => x)
theorem OwnI.at {w : World} {B : Nat} {v : Value} {xs : List Int} (h : OwnI w B v xs) : ∃ a c, v = .slice a xs.length c ∧ xs.length ≤ c ∧ c ≤ maxLen ∧ IntsAt w a xs := by
  obtain ⟨a, c, h1, h2, h3, h4, -⟩ := own_shape h
  refine ⟨a, c, h1, h2, h3, fun k hk => ?_⟩
  obtain ⟨g, e, -, hc⟩ := h4 k (by omega)
  refine ⟨g, 0, e, ?_⟩
  rw [Nat.zero_add, hc, ints_get hk]
theorem run_append_owned_none2 {P : Program} {w : World} (base : Nat) (t ty e : TypeId) (i : TypeInfo) (size : Nat) (ht : P.underlying t = some (.slice e)) (hi : P.info? e = some i)
    (v : Value) (n : Nat) (xs : List Value) (c : Nat) (hown : w.ownsRow base e size v n xs) : (Builtin.append_ #[t, t] ty #[v, .slice none 0 c]).run P w = .ok v w := by
  rcases hown.2 with ⟨rfl, rfl⟩ | ⟨g, cap, cur, rfl, -, -, hnc, -⟩
  · simp [Builtin.append_, run_underlying ht, sizeOf, typeInfo, hi, Builtin.lenOf, Builtin.firstCells]
  · simp [Builtin.append_, run_underlying ht, sizeOf, typeInfo, hi, Builtin.lenOf, Builtin.firstCells, hnc, storeCells]
/-- Steps laid behind an own row: 'append(own, l...)'. -/
theorem wpList_append_steps {ops : Array Oper} {rest : List Oper} {o : Oper} {a : Act} {Q : Exit → Act → World → Prop} {w : World} (base : Nat) {s x : Operand} {la : Option Addr} {M lc : Nat} {v : Value} {xs : List Int} (hgd : o.guard = none)
    (ho : o.op = .call { callee := .builtin .append, args := #[s, x], argTypes := #[24, 24] }) (hs : a.eval s = v) (hx : a.eval x = .slice la M lc) (hown : OwnI w base v xs) (l : List Int) (hM : M = l.length) (hl : IntsAt w la l) (hb : M ≤ 200000) (hn : xs.length ≤ 200000) (hbase : base ≤ w.heap.size)
    (h : ∀ v' w', OwnI w' base v' (xs ++ l) → w.grownBy w' v.ownBlock → wpList Tryz.prog ops Q rest (a.put o.dst v') w') : wpList Tryz.prog ops Q (o :: rest) a w := by
  obtain ⟨i, hi, hz0, hz1, hz2⟩ := info_parts Tryz.infoStep
  by_cases h0 : M = 0
  · subst h0
    have e1 : l = [] := List.eq_nil_of_length_eq_zero hM.symm
    subst e1
    rw [List.append_nil] at h
    cases la with
    | none =>
      refine wpList_plain hgd fun K hK => ?_
      have hrun := run_append_owned_none2 (P := Tryz.prog) (w := w) base 24 o.type 56 i 1 Tryz.underlying24 hi _ _ _ lc hown
      unfold Oper.wp
      simp [execOp, ho, resolve, invoke, builtin, hs, hx, hrun, Result.andThen]
      exact hK _ _ (h _ _ hown ⟨rfl, rfl, rfl, Nat.le_refl _, fun _ _ _ => rfl⟩)
    | some p =>
      refine wpList_append_own w hgd s x 24 ho base 56 i _ 1 8 Tryz.underlying24 hi hz0 hz1 hz2 rfl (by decide) _ _ _ hs hown p 0 lc [] hx rfl (fun j u hj => by simp at hj) (fun u hu => by cases hu) (by unfold maxLen; omega) (by omega) hbase ?_
      intro v' w' h1 h2 _
      rw [Nat.add_zero, List.append_nil] at h1
      exact h v' w' h1 h2
  · obtain ⟨b, off, rfl, -⟩ := hl 0 (by omega)
    refine wpList_append_own w hgd s x 24 ho base 56 i _ 1 8 Tryz.underlying24 hi hz0 hz1 hz2 rfl (by decide) _ _ _ hs hown ⟨b, off, none⟩ M lc (ints l) hx (by rw [ints_len]; omega) (fun j u hj => ?_) ints_one (by unfold maxLen; omega) (by omega) hbase ?_
    · have hjl : j < l.length := by
        have := (List.getElem?_eq_some_iff.1 hj).1
        rwa [ints_len] at this
      obtain ⟨b', off', e, hc⟩ := hl j hjl
      simp only [Option.some.injEq, Addr.mk.injEq, and_true] at e
      obtain ⟨rfl, rfl⟩ := e
      rw [ints_get hjl] at hj
      obtain rfl := Option.some.inj hj
      rw [show ((⟨b, off, none⟩ : Addr).add j) = ⟨b, off + j, none⟩ by unfold Addr.add; split <;> simp_all]
      exact hc
    · intro v' w' h1 h2 _
      refine h v' w' ?_ h2
      unfold OwnI
      rw [List.length_append, ints_app, ← hM]
      exact h1
theorem ownI_nil (w : World) (B : Nat) : OwnI w B (.slice none 0 0) [] := World.ownsRow_nil _ _ _ _
/-- A row of no elements, laid anew. -/
theorem ownI_new (w : World) {B : Nat} (hB : B ≤ w.heap.size) : OwnI (w.alloc (.cells #[] 56)) B (.slice (some ⟨w.heap.size, 0, none⟩) 0 0) [] :=
  ⟨rfl, Or.inr ⟨w.heap.size, 0, #[], rfl, hB, alloc_new w _, Nat.le_refl _, Nat.zero_le _, rfl, rfl⟩⟩
theorem intsAt_none {w : World} {xs : List Int} (h : IntsAt w none xs) : xs = [] := by
  cases xs with
  | nil => rfl
  | cons x xs => obtain ⟨b, off, e, -⟩ := h 0 (by simp); cases e
theorem steps_some (p : Addr) (n c : Nat) (w : World) : (binOp BinOp.eql 24 (.slice (some p) n c) (.slice none 0 0)).run Tryz.prog w = .ok (.bool false) w := by kernel_rfl
theorem steps_none (n c : Nat) (w : World) : (binOp BinOp.eql 24 (.slice none n c) (.slice none 0 0)).run Tryz.prog w = .ok (.bool true) w := by kernel_rfl
set_option maxRecDepth 100000 in
set_option maxHeartbeats 8000000 in
theorem clone_any (xs : List Int) (hl : xs.length ≤ 200000) (a : Option Addr) (c : Nat) (w : World) (h : IntsAt w a xs) :
    Calls Tryz.prog 67 #[.slice a xs.length c] w fun e w' => ∃ v, e = .returned v ∧ OwnI w' w.heap.size v xs ∧ KB F0 w w' := by
  obtain ⟨w0, rfl⟩ : ∃ w0, w0 = w := ⟨_, rfl⟩
  cases a with
  | none =>
    obtain rfl := intsAt_none h
    simp only [List.length_nil]
    have he := fun w => steps_none 0 c w
    clear h hl
    go_enter Tryz.func67, Tryz.ntmps67
    go_wp2_with fail
    go_ret
    exact ⟨_, rfl, ownI_nil _ _, KB.refl _ _⟩
  | some p =>
    obtain ⟨N, hN⟩ : ∃ N, N = xs.length := ⟨_, rfl⟩
    have H := Lib.hid (And.intro h hN)
    rw [← hN] at hl ⊢
    have he := fun w => steps_some p N c w
    clear h hN
    go_enter Tryz.func67, Tryz.ntmps67
    go_wp2_with (at_builtin; refine Stopped.out ?_)
    refine ⟨?_⟩
    have ka : KB F0 w0 (w0.alloc (.cells #[] 56)) := (KB.refl _ _).alloc _
    have hnew := ownI_new w0 (Nat.le_refl _)
    refine wpList_append_steps w0.heap.size rfl rfl rfl rfl hnew xs H.out.2 (H.out.1.kbF ka) hl (by simp) ka.size ?_
    intro v' w' hown hgr
    have HK : Hid (OwnI w' w0.heap.size v' xs ∧ KB F0 w0 w') := Lib.hid ⟨by rw [List.nil_append] at hown; exact hown, ka.grown hgr (own_ge hnew (Nat.le_refl _))⟩
    clear hown hgr hnew ka
    go_wp2_with fail
    go_ret
    exact ⟨_, rfl, HK.out⟩
theorem ret_pl {fn : Func} {R : Ending → World → Prop} {a : Act} {w : World} {p X : Nat} {x : Int} {v : Value} (h : fn.results = #[.cell p 26]) (hp : a.tmps.getD p undef = .pointer (some ⟨X, 0, none⟩))
    (hc : w.heap[X]? = some (.cells #[.int .i64 x, v] 26 (0, 0))) (hd : a.defers = []) (hR : R (.returned (.agg #[.int .i64 x, v])) w) : bodyPost Tryz.prog fn R .ret a w := by
  refine bodyPost_ret (v := .agg #[.int .i64 x, v]) ?_ hd hR
  have hp' : a.tmps[p]?.getD undef = .pointer (some ⟨X, 0, none⟩) := by simpa using hp
  have c0 : w.cell? ⟨X, 0, none⟩ = some (.int .i64 x) := blk_cell hc 0
  have c1 : w.cell? ⟨X, 1, none⟩ = some v := blk_cell hc 1
  simp only [results, h]
  go_simp
set_option maxRecDepth 100000 in
set_option maxHeartbeats 8000000 in
theorem cut_any (p : Pl) (n : Nat) (hn : n ≤ p.path.length) (a : Option Addr) (c : Nat) (w : World) (h : PlAt w p a c) :
    Calls Tryz.prog 48 #[plV p a c, .int .i64 n] w fun e w' => ∃ v, e = .returned (.agg #[.int .i64 p.loc, v]) ∧ OwnI w' w.heap.size v (p.path.take n) ∧ KB F0 w w' := by
  obtain ⟨w0, rfl⟩ : ∃ w0, w0 = w := ⟨_, rfl⟩
  have hsm := h.small
  have hcap := h.cap
  have hlen : (p.path.take n).length = n := by rw [List.length_take]; omega
  have CL := Lib.hid (fun (W : World) (hk : KB F0 w0 W) => clone_any (p.path.take n) (by omega) a n W ((h.ints.kbF hk).take n))
  rw [hlen] at CL
  obtain ⟨x, xs⟩ := p
  unfold plV
  simp only at CL hsm hcap hn ⊢
  obtain ⟨N, hN⟩ : ∃ N, N = xs.length := ⟨_, rfl⟩
  rw [← hN] at hsm hcap hn ⊢
  obtain ⟨l, hl⟩ : ∃ l, l = xs.take n := ⟨_, rfl⟩
  rw [← hl] at CL ⊢
  have HLN : Hid (l.length = n) := Lib.hid (by rw [hl]; exact hlen)
  clear h hN hlen hl
  obtain ⟨W2, hW2⟩ : ∃ W2, W2 = (w0.alloc (.cells #[.int .i64 x, .slice a N c] 26)).alloc (.cells #[.int .i64 0, .slice none 0 0] 26) := ⟨_, rfl⟩
  have hB := box2 w0 x 0 (.slice a N c) (.slice none 0 0)
  rw [← hW2] at hB
  have x0 : W2.cell? ⟨w0.heap.size, 0, none⟩ = some (.int .i64 x) := blk_cell hB.g1 0
  have x1 : W2.cell? ⟨w0.heap.size, 1, none⟩ = some (.slice a N c) := blk_cell hB.g1 1
  have i1 : (n : Int) ≤ (N : Int) := by omega
  have i2 : (n : Int) ≤ (c : Int) := by omega
  have i3 : n ≤ c := by omega
  have HB := Lib.hid hB
  have hs0 := hB.kb.size
  clear hB
  go_enter Tryz.func48, Tryz.ntmps48
  go_wp2_with fail
  rw [← hW2]
  clear hW2
  refine wp_region_rv 9 GK (kindW [(7, (fun v => ∃ va vc, v = .slice va n vc), (fun v w => OwnI w w0.heap.size v l))]) (by kernel_rfl) (by kernel_rfl) (kb_trans _) (kb_refl _) (kb_start _ _) (kindW_mono _ (by intro p hp; simp only [List.mem_cons, List.not_mem_nil, or_false] at hp; subst hp; exact fun _ _ _ hG h => OwnI.kbF h hG)) ?_
  simp only [List.take_succ_cons, List.take_zero, List.drop_succ_cons, List.drop_zero]
  refine rv_det (by kernel_rfl) rfl (by intro w hG hH; go_simp; first | done | with_reducible rfl) ?_
  simp only [Act.put, List.setIfInBounds_toArray, List.set_cons_zero, List.set_cons_succ]
  refine rv_det (by kernel_rfl) rfl (by intro w hG hH; have hc0 := KB.cell hG (fun x => x) (x0); go_simp; first | done | with_reducible rfl) ?_
  simp only [Act.put, List.setIfInBounds_toArray, List.set_cons_zero, List.set_cons_succ]
  refine rv_det (by kernel_rfl) rfl (by intro w hG hH; go_simp; first | done | with_reducible rfl) ?_
  simp only [Act.put, List.setIfInBounds_toArray, List.set_cons_zero, List.set_cons_succ]
  refine rv_det (by kernel_rfl) rfl (by intro w hG hH; have hc0 := KB.cell hG (fun x => x) (x1); go_simp; first | done | with_reducible rfl) ?_
  simp only [Act.put, List.setIfInBounds_toArray, List.set_cons_zero, List.set_cons_succ]
  iterate 3 (refine rv_det (by kernel_rfl) rfl (by intro w hG hH; go_simp; first | done | with_reducible rfl) ?_; simp only [Act.put, List.setIfInBounds_toArray, List.set_cons_zero, List.set_cons_succ])
  refine rv_rel (by kernel_rfl) rfl ⟨.slice none n 0, _, _, rfl⟩ (by
    intro w hG hH
    refine opVal_call (by go_simp; first | done | exact ⟨⟨rfl, rfl⟩, rfl⟩) ?_
    refine (CL.out _ (HB.out.kb.trans hG)).mono ?_
    rintro e w' ⟨v, rfl, hq, hk⟩
    obtain ⟨va, vc, rfl, -, -, -⟩ := hq.at
    rw [HLN.out] at hq ⊢
    exact ⟨_, rfl, ⟨_, _, rfl⟩, hk, own_base hq (by have := hG.size; omega)⟩) ?_
  rintro v ⟨va, vc, rfl⟩
  simp only [Act.put, List.setIfInBounds_toArray, List.set_cons_zero, List.set_cons_succ]
  refine rv_det (by kernel_rfl) rfl (by intro w hG hH; go_simp; first | done | with_reducible rfl) ?_
  simp only [Act.put, List.setIfInBounds_toArray, List.set_cons_zero, List.set_cons_succ]
  refine rv_nil (fun w hG hH => ?_)
  have hv : OwnI w w0.heap.size (.slice va n vc) l := hH (7, _) List.mem_cons_self
  have g2 := hG.heap (fun x => x) HB.out.g2
  have y0 : w.cell? ⟨w0.heap.size + 1, 0, none⟩ = some (.int .i64 0) := blk_cell g2 0
  have y1 : w.cell? ⟨w0.heap.size + 1, 1, none⟩ = some (.slice none 0 0) := blk_cell g2 1
  have f0 := blk_frozen g2 0
  have f1 := blk_frozen g2 1
  have HV := Lib.hid (And.intro hv (And.intro g2 (HB.out.kb.trans hG)))
  clear hv g2 hG hH x0 x1
  go_wp2_with fail
  have hk2 : KB F0 w0 ((w.setCell ⟨w0.heap.size + 1, 0, none⟩ (.int .i64 x)).setCell ⟨w0.heap.size + 1, 1, none⟩ (.slice va n vc)) :=
    (HV.out.2.2.setCell (p := ⟨w0.heap.size + 1, 0, none⟩) (fun hh => by have h1 : w0.heap.size + 1 < w0.heap.size := hh; omega) _).setCell (p := ⟨w0.heap.size + 1, 1, none⟩) (fun hh => by have h1 : w0.heap.size + 1 < w0.heap.size := hh; omega) _
  refine ret_pl (X := w0.heap.size + 1) (x := x) (v := .slice va n vc) rfl rfl (setCell_blk (i := 1) (setCell_blk (i := 0) HV.out.2.1 (.int .i64 x)) (.slice va n vc)) rfl ⟨_, rfl, ?_, hk2⟩
  exact HV.out.1.kb ((kb_set w (w0.heap.size + 1) 0 (.int .i64 x)).trans (kb_set _ (w0.heap.size + 1) 1 (.slice va n vc))) (fun g e1 e2 => by
    obtain ⟨cur, h1, -⟩ := own_block HV.out.1 e1
    rw [e2, HV.out.2.1] at h1
    simp only [Option.some.injEq, Obj.cells.injEq] at h1
    exact absurd h1.2.1 (by decide))
end Go.Proofs.YtpigppghcghpbaaGreatDoor

/- Steps copied: slices.Clone, append; place.cut. Lists of places in memory of their own; place.Prefixes. -/
import Derived.Test.YtpigppghcghpbaaGreatDoorPlG
import Derived.Laws.AppendOwnNone
import Derived.Test.YtpigppghcghpbaaGreatDoorMg04
namespace Go.Proofs.YtpigppghcghpbaaGreatDoor
open Go.RowKit

def ints (l : List Int) : List Value := l.map (Value.int .i64)
theorem ints_len (l : List Int) : (ints l).length = l.length := by simp [ints]
theorem ints_get {l : List Int} {i : Nat} (h : i < l.length) : (ints l)[i]? = some (.int .i64 (l.getD i 0)) := by
  simp [ints, List.getD_eq_getElem?_getD, List.getElem?_eq_getElem h]
theorem ints_one {l : List Int} : ∀ u ∈ ints l, u.oneCell' = true := fun u hu => by
  obtain ⟨x, -, rfl⟩ := List.mem_map.1 hu
  rfl
theorem ints_app (a b : List Int) : ints (a ++ b) = ints a ++ ints b := by simp [ints]
theorem Tryz.infoStep : (Tryz.prog.info? 56).map (fun i => (i.zero, i.size, i.bytes)) = some (some (.int .i64 0), 1, 8) := by kernel_rfl
theorem Tryz.infoPlace : (Tryz.prog.info? 26).map (fun i => (i.zero, i.size, i.bytes)) = some (some (.agg #[.int .i64 0, .slice none 0 0]), 2, 32) := by kernel_rfl
/-- Steps in memory of their own, from block B on. -/
def OwnI (w : World) (B : Nat) (v : Value) (xs : List Int) : Prop := w.ownsRow B 56 1 v xs.length (ints xs)
theorem OwnI.kb {w w' : World} {B : Nat} {v : Value} {xs : List Int} (h : OwnI w B v xs) {S : Nat → Prop} (hk : KB S w w') (hS : ∀ g, v.ownBlock = some g → ¬ S g) : OwnI w' B v xs := own_kb h hk hS
theorem OwnI.kbF {w w' : World} {B : Nat} {v : Value} {xs : List Int} (h : OwnI w B v xs) (hk : KB F0 w w') : OwnI w' B v xs := h.kb hk (fun _ _ x => x)
theorem OwnI.at {w : World} {B : Nat} {v : Value} {xs : List Int} (h : OwnI w B v xs) : ∃ a c, v = .slice a xs.length c ∧ xs.length ≤ c ∧ c ≤ maxLen ∧ IntsAt w a xs := by
  obtain ⟨a, c, h1, h2, h3, h4, -⟩ := own_shape h
  refine ⟨a, c, h1, h2, h3, fun k hk => ?_⟩
  obtain ⟨g, e, -, hc⟩ := h4 k (by omega)
  refine ⟨g, 0, e, ?_⟩
  rw [Nat.zero_add, hc, ints_get hk]
theorem run_append_owned_none2 {P : Program} {w : World} (base : Nat) (t ty e : TypeId) (i : TypeInfo) (size : Nat) (ht : P.underlying t = some (.slice e)) (hi : P.info? e = some i)
    (v : Value) (n : Nat) (xs : List Value) (c : Nat) (hown : w.ownsRow base e size v n xs) : (Builtin.append_ #[t, t] ty #[v, .slice none 0 c]).run P w = .ok v w := by
  rcases hown.2 with ⟨rfl, rfl⟩ | ⟨g, cap, cur, rfl, -, -, hnc, -⟩
  · simp [Builtin.append_, run_underlying ht, sizeOf, typeInfo, hi, Builtin.lenOf, Builtin.firstCells]
  · simp [Builtin.append_, run_underlying ht, sizeOf, typeInfo, hi, Builtin.lenOf, Builtin.firstCells, hnc, storeCells]
/-- Steps laid behind an own row: 'append(own, l...)'. -/
theorem wpList_append_steps {ops : Array Oper} {rest : List Oper} {o : Oper} {a : Act} {Q : Exit → Act → World → Prop} {w : World} (base : Nat) {s x : Operand} {la : Option Addr} {M lc : Nat} {v : Value} {xs : List Int} (hgd : o.guard = none)
    (ho : o.op = .call { callee := .builtin .append, args := #[s, x], argTypes := #[24, 24] }) (hs : a.eval s = v) (hx : a.eval x = .slice la M lc) (hown : OwnI w base v xs) (l : List Int) (hM : M = l.length) (hl : IntsAt w la l) (hb : M ≤ 200000) (hn : xs.length ≤ 200000) (hbase : base ≤ w.heap.size)
    (h : ∀ v' w', OwnI w' base v' (xs ++ l) → w.grownBy w' v.ownBlock → wpList Tryz.prog ops Q rest (a.put o.dst v') w') : wpList Tryz.prog ops Q (o :: rest) a w := by
  obtain ⟨i, hi, hz0, hz1, hz2⟩ := info_parts Tryz.infoStep
  by_cases h0 : M = 0
  · subst h0
    have e1 : l = [] := List.eq_nil_of_length_eq_zero hM.symm
    subst e1
    rw [List.append_nil] at h
    cases la with
    | none =>
      refine wpList_plain hgd fun K hK => ?_
      have hrun := run_append_owned_none2 (P := Tryz.prog) (w := w) base 24 o.type 56 i 1 Tryz.underlying24 hi _ _ _ lc hown
      unfold Oper.wp
      simp [execOp, ho, resolve, invoke, builtin, hs, hx, hrun, Result.andThen]
      exact hK _ _ (h _ _ hown ⟨rfl, rfl, rfl, Nat.le_refl _, fun _ _ _ => rfl⟩)
    | some p =>
      refine wpList_append_own w hgd s x 24 ho base 56 i _ 1 8 Tryz.underlying24 hi hz0 hz1 hz2 rfl (by decide) _ _ _ hs hown p 0 lc [] hx rfl (fun j u hj => by simp at hj) (fun u hu => by cases hu) (by unfold maxLen; omega) (by omega) hbase ?_
      intro v' w' h1 h2 _
      rw [Nat.add_zero, List.append_nil] at h1
      exact h v' w' h1 h2
  · obtain ⟨b, off, rfl, -⟩ := hl 0 (by omega)
    refine wpList_append_own w hgd s x 24 ho base 56 i _ 1 8 Tryz.underlying24 hi hz0 hz1 hz2 rfl (by decide) _ _ _ hs hown ⟨b, off, none⟩ M lc (ints l) hx (by rw [ints_len]; omega) (fun j u hj => ?_) ints_one (by unfold maxLen; omega) (by omega) hbase ?_
    · have hjl : j < l.length := by
        have := (List.getElem?_eq_some_iff.1 hj).1
        rwa [ints_len] at this
      obtain ⟨b', off', e, hc⟩ := hl j hjl
      simp only [Option.some.injEq, Addr.mk.injEq, and_true] at e
      obtain ⟨rfl, rfl⟩ := e
      rw [ints_get hjl] at hj
      obtain rfl := Option.some.inj hj
      rw [show ((⟨b, off, none⟩ : Addr).add j) = ⟨b, off + j, none⟩ by unfold Addr.add; split <;> simp_all]
      exact hc
    · intro v' w' h1 h2 _
      refine h v' w' ?_ h2
      unfold OwnI
      rw [List.length_append, ints_app, ← hM]
      exact h1
theorem ownI_nil (w : World) (B : Nat) : OwnI w B (.slice none 0 0) [] := World.ownsRow_nil _ _ _ _
/-- A row of no elements, laid anew. -/
theorem ownI_new (w : World) {B : Nat} (hB : B ≤ w.heap.size) : OwnI (w.alloc (.cells #[] 56)) B (.slice (some ⟨w.heap.size, 0, none⟩) 0 0) [] :=
  ⟨rfl, Or.inr ⟨w.heap.size, 0, #[], rfl, hB, alloc_new w _, Nat.le_refl _, Nat.zero_le _, rfl, rfl⟩⟩
theorem intsAt_none {w : World} {xs : List Int} (h : IntsAt w none xs) : xs = [] := by
  cases xs with
  | nil => rfl
  | cons x xs => obtain ⟨b, off, e, -⟩ := h 0 (by simp); cases e
theorem steps_some (p : Addr) (n c : Nat) (w : World) : (binOp BinOp.eql 24 (.slice (some p) n c) (.slice none 0 0)).run Tryz.prog w = .ok (.bool false) w := by kernel_rfl
theorem steps_none (n c : Nat) (w : World) : (binOp BinOp.eql 24 (.slice none n c) (.slice none 0 0)).run Tryz.prog w = .ok (.bool true) w := by kernel_rfl
set_option maxRecDepth 100000 in
set_option maxHeartbeats 8000000 in
theorem clone_any (xs : List Int) (hl : xs.length ≤ 200000) (a : Option Addr) (c : Nat) (w : World) (h : IntsAt w a xs) :
    Calls Tryz.prog 67 #[.slice a xs.length c] w fun e w' => ∃ v, e = .returned v ∧ OwnI w' w.heap.size v xs ∧ KB F0 w w' := by
  obtain ⟨w0, rfl⟩ : ∃ w0, w0 = w := ⟨_, rfl⟩
  cases a with
  | none =>
    obtain rfl := intsAt_none h
    simp only [List.length_nil]
    have he := fun w => steps_none 0 c w
    clear h hl
    go_enter Tryz.func67, Tryz.ntmps67
    go_wp2_with fail
    go_ret
    exact ⟨_, rfl, ownI_nil _ _, KB.refl _ _⟩
  | some p =>
    obtain ⟨N, hN⟩ : ∃ N, N = xs.length := ⟨_, rfl⟩
    have H := Lib.hid (And.intro h hN)
    rw [← hN] at hl ⊢
    have he := fun w => steps_some p N c w
    clear h hN
    go_enter Tryz.func67, Tryz.ntmps67
    go_wp2_with (at_builtin; refine Stopped.out ?_)
    refine ⟨?_⟩
    have ka : KB F0 w0 (w0.alloc (.cells #[] 56)) := (KB.refl _ _).alloc _
    have hnew := ownI_new w0 (Nat.le_refl _)
    refine wpList_append_steps w0.heap.size rfl rfl rfl rfl hnew xs H.out.2 (H.out.1.kbF ka) hl (by simp) ka.size ?_
    intro v' w' hown hgr
    have HK : Hid (OwnI w' w0.heap.size v' xs ∧ KB F0 w0 w') := Lib.hid ⟨by rw [List.nil_append] at hown; exact hown, ka.grown hgr (own_ge hnew (Nat.le_refl _))⟩
    clear hown hgr hnew ka
    go_wp2_with fail
    go_ret
    exact ⟨_, rfl, HK.out⟩
theorem ret_pl {fn : Func} {R : Ending → World → Prop} {a : Act} {w : World} {p X : Nat} {x : Int} {v : Value} (h : fn.results = #[.cell p 26]) (hp : a.tmps.getD p undef = .pointer (some ⟨X, 0, none⟩))
    (hc : w.heap[X]? = some (.cells #[.int .i64 x, v] 26 (0, 0))) (hd : a.defers = []) (hR : R (.returned (.agg #[.int .i64 x, v])) w) : bodyPost Tryz.prog fn R .ret a w := by
  refine bodyPost_ret (v := .agg #[.int .i64 x, v]) ?_ hd hR
  have hp' : a.tmps[p]?.getD undef = .pointer (some ⟨X, 0, none⟩) := by simpa using hp
  have c0 : w.cell? ⟨X, 0, none⟩ = some (.int .i64 x) := blk_cell hc 0
  have c1 : w.cell? ⟨X, 1, none⟩ = some v := blk_cell hc 1
  simp only [results, h]
  go_simp
set_option maxRecDepth 100000 in
set_option maxHeartbeats 8000000 in
theorem cut_any (p : Pl) (n : Nat) (hn : n ≤ p.path.length) (a : Option Addr) (c : Nat) (w : World) (h : PlAt w p a c) :
    Calls Tryz.prog 48 #[plV p a c, .int .i64 n] w fun e w' => ∃ v, e = .returned (.agg #[.int .i64 p.loc, v]) ∧ OwnI w' w.heap.size v (p.path.take n) ∧ KB F0 w w' := by
  obtain ⟨w0, rfl⟩ : ∃ w0, w0 = w := ⟨_, rfl⟩
  have hsm := h.small
  have hcap := h.cap
  have hlen : (p.path.take n).length = n := by rw [List.length_take]; omega
  have CL := Lib.hid (fun (W : World) (hk : KB F0 w0 W) => clone_any (p.path.take n) (by omega) a n W ((h.ints.kbF hk).take n))
  rw [hlen] at CL
  obtain ⟨x, xs⟩ := p
  unfold plV
  simp only at CL hsm hcap hn ⊢
  obtain ⟨N, hN⟩ : ∃ N, N = xs.length := ⟨_, rfl⟩
  rw [← hN] at hsm hcap hn ⊢
  obtain ⟨l, hl⟩ : ∃ l, l = xs.take n := ⟨_, rfl⟩
  rw [← hl] at CL ⊢
  have HLN : Hid (l.length = n) := Lib.hid (by rw [hl]; exact hlen)
  clear h hN hlen hl
  obtain ⟨W2, hW2⟩ : ∃ W2, W2 = (w0.alloc (.cells #[.int .i64 x, .slice a N c] 26)).alloc (.cells #[.int .i64 0, .slice none 0 0] 26) := ⟨_, rfl⟩
  have hB := box2 w0 x 0 (.slice a N c) (.slice none 0 0)
  rw [← hW2] at hB
  have x0 : W2.cell? ⟨w0.heap.size, 0, none⟩ = some (.int .i64 x) := blk_cell hB.g1 0
  have x1 : W2.cell? ⟨w0.heap.size, 1, none⟩ = some (.slice a N c) := blk_cell hB.g1 1
  have i1 : (n : Int) ≤ (N : Int) := by omega
  have i2 : (n : Int) ≤ (c : Int) := by omega
  have i3 : n ≤ c := by omega
  have HB := Lib.hid hB
  have hs0 := hB.kb.size
  clear hB
  go_enter Tryz.func48, Tryz.ntmps48
  go_wp2_with fail
  rw [← hW2]
  clear hW2
  refine wp_region_rv 9 GK (kindW [(7, (fun v => ∃ va vc, v = .slice va n vc), (fun v w => OwnI w w0.heap.size v l))]) (by kernel_rfl) (by kernel_rfl) (kb_trans _) (kb_refl _) (kb_start _ _) (kindW_mono _ (by intro p hp; simp only [List.mem_cons, List.not_mem_nil, or_false] at hp; subst hp; exact fun _ _ _ hG h => OwnI.kbF h hG)) ?_
  simp only [List.take_succ_cons, List.take_zero, List.drop_succ_cons, List.drop_zero]
  refine rv_det (by kernel_rfl) rfl (by intro w hG hH; go_simp; first | done | with_reducible rfl) ?_
  simp only [Act.put, List.setIfInBounds_toArray, List.set_cons_zero, List.set_cons_succ]
  refine rv_det (by kernel_rfl) rfl (by intro w hG hH; have hc0 := KB.cell hG (fun x => x) (x0); go_simp; first | done | with_reducible rfl) ?_
  simp only [Act.put, List.setIfInBounds_toArray, List.set_cons_zero, List.set_cons_succ]
  refine rv_det (by kernel_rfl) rfl (by intro w hG hH; go_simp; first | done | with_reducible rfl) ?_
  simp only [Act.put, List.setIfInBounds_toArray, List.set_cons_zero, List.set_cons_succ]
  refine rv_det (by kernel_rfl) rfl (by intro w hG hH; have hc0 := KB.cell hG (fun x => x) (x1); go_simp; first | done | with_reducible rfl) ?_
  simp only [Act.put, List.setIfInBounds_toArray, List.set_cons_zero, List.set_cons_succ]
  iterate 3 (refine rv_det (by kernel_rfl) rfl (by intro w hG hH; go_simp; first | done | with_reducible rfl) ?_; simp only [Act.put, List.setIfInBounds_toArray, List.set_cons_zero, List.set_cons_succ])
  refine rv_rel (by kernel_rfl) rfl ⟨.slice none n 0, _, _, rfl⟩ (by
    intro w hG hH
    refine opVal_call (by go_simp; first | done | exact ⟨⟨rfl, rfl⟩, rfl⟩) ?_
    refine (CL.out _ (HB.out.kb.trans hG)).mono ?_
    rintro e w' ⟨v, rfl, hq, hk⟩
    obtain ⟨va, vc, rfl, -, -, -⟩ := hq.at
    rw [HLN.out] at hq ⊢
    exact ⟨_, rfl, ⟨_, _, rfl⟩, hk, own_base hq (by have := hG.size; omega)⟩) ?_
  rintro v ⟨va, vc, rfl⟩
  simp only [Act.put, List.setIfInBounds_toArray, List.set_cons_zero, List.set_cons_succ]
  refine rv_det (by kernel_rfl) rfl (by intro w hG hH; go_simp; first | done | with_reducible rfl) ?_
  simp only [Act.put, List.setIfInBounds_toArray, List.set_cons_zero, List.set_cons_succ]
  refine rv_nil (fun w hG hH => ?_)
  have hv : OwnI w w0.heap.size (.slice va n vc) l := hH (7, _) List.mem_cons_self
  have g2 := hG.heap (fun x => x) HB.out.g2
  have y0 : w.cell? ⟨w0.heap.size + 1, 0, none⟩ = some (.int .i64 0) := blk_cell g2 0
  have y1 : w.cell? ⟨w0.heap.size + 1, 1, none⟩ = some (.slice none 0 0) := blk_cell g2 1
  have f0 := blk_frozen g2 0
  have f1 := blk_frozen g2 1
  have HV := Lib.hid (And.intro hv (And.intro g2 (HB.out.kb.trans hG)))
  clear hv g2 hG hH x0 x1
  go_wp2_with fail
  have hk2 : KB F0 w0 ((w.setCell ⟨w0.heap.size + 1, 0, none⟩ (.int .i64 x)).setCell ⟨w0.heap.size + 1, 1, none⟩ (.slice va n vc)) :=
    (HV.out.2.2.setCell (p := ⟨w0.heap.size + 1, 0, none⟩) (fun hh => by have h1 : w0.heap.size + 1 < w0.heap.size := hh; omega) _).setCell (p := ⟨w0.heap.size + 1, 1, none⟩) (fun hh => by have h1 : w0.heap.size + 1 < w0.heap.size := hh; omega) _
  refine ret_pl (X := w0.heap.size + 1) (x := x) (v := .slice va n vc) rfl rfl (setCell_blk (i := 1) (setCell_blk (i := 0) HV.out.2.1 (.int .i64 x)) (.slice va n vc)) rfl ⟨_, rfl, ?_, hk2⟩
  exact HV.out.1.kb ((kb_set w (w0.heap.size + 1) 0 (.int .i64 x)).trans (kb_set _ (w0.heap.size + 1) 1 (.slice va n vc))) (fun g e1 e2 => by
    obtain ⟨cur, h1, -⟩ := own_block HV.out.1 e1
    rw [e2, HV.out.2.1] at h1
    simp only [Option.some.injEq, Obj.cells.injEq] at h1
    exact absurd h1.2.1 (by decide))
end Go.Proofs.YtpigppghcghpbaaGreatDoor

namespace Go.Proofs.YtpigppghcghpbaaGreatDoor
open Go.RowKit

def cellsP (x : Int) (vs : List Value) : List Value := vs.flatMap fun v => [.int .i64 x, v]
theorem cellsP_app (x : Int) (a b : List Value) : cellsP x (a ++ b) = cellsP x a ++ cellsP x b := by simp [cellsP]
theorem cellsP_get (x : Int) : ∀ (vs : List Value) (k : Nat), k < vs.length → (cellsP x vs)[k * 2]? = some (.int .i64 x) ∧ (cellsP x vs)[k * 2 + 1]? = some (vs.getD k undef) := by
  intro vs
  induction vs with
  | nil => intro k hk; simp at hk
  | cons v vs ih =>
    intro k hk
    cases k with
    | zero => simp [cellsP]
    | succ k =>
      have := ih k (by simpa using hk)
      unfold cellsP at this ⊢
      rw [List.flatMap_cons, show (k + 1) * 2 = k * 2 + 2 by omega]
      simpa using this
theorem own_growns {w w' : World} {B : Nat} {e : TypeId} {size : Nat} {v : Value} {n : Nat} {xs : List Value} (h : w.ownsRow B e size v n xs) {row : Option Nat} (hg : w.grownBy w' row) (hr : ∀ g, v.ownBlock = some g → row ≠ some g) : w'.ownsRow B e size v n xs := by
  obtain ⟨h1, h2⟩ := h
  refine ⟨h1, ?_⟩
  rcases h2 with h2 | ⟨g, cap, cur, hv, hb, hh, r⟩
  · exact Or.inl h2
  · refine Or.inr ⟨g, cap, cur, hv, hb, ?_, r⟩
    rw [hg.block g (heap_lt hh) (fun e => hr g (by rw [hv]; rfl) e.symm)]
    exact hh
theorem own_lenP {w : World} {B z n : Nat} {e : TypeId} {v : Value} {xs : List Value} (h : w.ownsRow B e z v n xs) : ∃ a c, v = .slice a n c := by
  rcases h.2 with ⟨rfl, h0⟩ | ⟨g, cap, cur, rfl, -⟩
  · exact ⟨none, 0, by rw [h0]⟩
  · exact ⟨_, _, rfl⟩
/-- Places of one local, in memory of their own from block B on, each path in a block of its own. -/
structure OwnPls (w : World) (B : Nat) (v : Value) (x : Int) (l : List (List Int)) (vs : List Value) : Prop where
  len : vs.length = l.length
  row : w.ownsRow B 26 2 v l.length (cellsP x vs)
  paths : ∀ k, k < l.length → OwnI w B (vs.getD k undef) (l.getD k [])
  apart : ∀ i j, i < j → j < l.length → ∀ g, (vs.getD i undef).ownBlock = some g → (vs.getD j undef).ownBlock ≠ some g
theorem ownPls_nil (w : World) (B : Nat) (x : Int) : OwnPls w B (.slice none 0 0) x [] [] := ⟨rfl, World.ownsRow_nil _ _ _ _, fun k hk => by simp at hk, fun i j _ hk => by simp at hk⟩
theorem OwnPls.kb {w w' : World} {B : Nat} {v : Value} {x : Int} {l : List (List Int)} {vs : List Value} (h : OwnPls w B v x l vs) {S : Nat → Prop} (hk : KB S w w') (hS : ∀ g, B ≤ g → g < w.heap.size → ¬ S g) : OwnPls w' B v x l vs :=
  ⟨h.len, own_kb h.row hk (fun g e => hS g (h.row.lt g e).1 (h.row.lt g e).2), fun k hk' => (h.paths k hk').kb hk (fun g e => hS g ((h.paths k hk').lt g e).1 ((h.paths k hk').lt g e).2), h.apart⟩
theorem OwnPls.kbF {w w' : World} {B : Nat} {v : Value} {x : Int} {l : List (List Int)} {vs : List Value} (h : OwnPls w B v x l vs) (hk : KB F0 w w') : OwnPls w' B v x l vs := h.kb hk (fun _ _ _ x => x)
theorem OwnPls.base {w : World} {B B' : Nat} {v : Value} {x : Int} {l : List (List Int)} {vs : List Value} (h : OwnPls w B v x l vs) (hb : B' ≤ B) : OwnPls w B' v x l vs :=
  ⟨h.len, own_base h.row hb, fun k hk => own_base (h.paths k hk) hb, h.apart⟩
theorem OwnPls.push {w w' : World} {B Bu : Nat} {v v' u : Value} {x : Int} {l : List (List Int)} {t : List Int} {vs : List Value} (h : OwnPls w B v x l vs) (hu : OwnI w Bu u t) (hB : B ≤ Bu)
    (hlt : ∀ k, k < l.length → ∀ g, (vs.getD k undef).ownBlock = some g → g < Bu)
    (h' : w'.ownsRow B 26 2 v' (l.length + 1) (cellsP x vs ++ [.int .i64 x, u])) (hg : w.grownBy w' v.ownBlock) : OwnPls w' B v' x (l ++ [t]) (vs ++ [u]) := by
  have hne : ∀ {B2 : Nat} {u : Value} {xs : List Int}, OwnI w B2 u xs → OwnI w' B2 u xs := fun hu => own_growns hu hg (fun g e1 e2 => by
    obtain ⟨c1, h1, -⟩ := own_block hu e1
    obtain ⟨c2, h2, -⟩ := own_block h.row e2
    rw [h1] at h2
    simp only [Option.some.injEq, Obj.cells.injEq] at h2
    exact absurd h2.2.1 (by decide))
  have g1 : ∀ k, k < l.length → (vs ++ [u]).getD k undef = vs.getD k undef := fun k hk => by
    simp [List.getD_eq_getElem?_getD, List.getElem?_append_left (show k < vs.length by rw [h.len]; exact hk)]
  have g2 : (vs ++ [u]).getD l.length undef = u := by simp [List.getD_eq_getElem?_getD, ← h.len]
  refine ⟨by simp [h.len], ?_, ?_, ?_⟩
  · rw [List.length_append, cellsP_app]; exact h'
  · intro k hk
    rw [List.length_append, List.length_singleton] at hk
    by_cases hl : k < l.length
    · rw [g1 k hl, show (l ++ [t]).getD k [] = l.getD k [] by simp [List.getD_eq_getElem?_getD, List.getElem?_append_left hl]]
      exact hne (h.paths k hl)
    · obtain rfl : k = l.length := by omega
      rw [g2, show (l ++ [t]).getD l.length [] = t by simp [List.getD_eq_getElem?_getD]]
      exact own_base (hne hu) hB
  · intro i j hij hj g e1
    rw [List.length_append, List.length_singleton] at hj
    rw [g1 i (by omega)] at e1
    by_cases hl : j < l.length
    · rw [g1 j hl]; exact h.apart i j hij hl g e1
    · obtain rfl : j = l.length := by omega
      rw [g2]
      intro e2
      have a1 := hlt i hij g e1
      have a2 := (hu.lt g e2).1
      omega
theorem OwnPls.at_ {w : World} {B : Nat} {v : Value} {x : Int} {l : List (List Int)} {vs : List Value} (h : OwnPls w B v x l vs) (hs : ∀ k, k < l.length → (l.getD k []).length ≤ 100000) : ∃ a c, v = .slice a l.length c ∧ l.length ≤ c ∧ c ≤ maxLen ∧
    ∀ k, k < l.length → ∃ g ta tc, a = some ⟨g, 0, none⟩ ∧ B ≤ g ∧ vs.getD k undef = .slice ta (l.getD k []).length tc ∧ w.cell? ⟨g, k * 2, none⟩ = some (.int .i64 x) ∧ w.cell? ⟨g, k * 2 + 1, none⟩ = some (.slice ta (l.getD k []).length tc) ∧ PlAt w ⟨x, l.getD k []⟩ ta tc := by
  obtain ⟨a, c, h1, h2, h3, h4, -⟩ := own_shape h.row
  refine ⟨a, c, h1, h2, h3, fun k hk => ?_⟩
  obtain ⟨g, e, hb, c0⟩ := h4 (k * 2) (by omega)
  obtain ⟨g', e', -, c1⟩ := h4 (k * 2 + 1) (by omega)
  rw [e] at e'
  simp only [Option.some.injEq, Addr.mk.injEq, and_true] at e'
  subst e'
  obtain ⟨p0, p1⟩ := cellsP_get x vs k (by rw [h.len]; exact hk)
  obtain ⟨ta, tc, hv, hn, -, hi⟩ := (h.paths k hk).at
  rw [hv] at p1
  exact ⟨g, ta, tc, e, hb, hv, by rw [c0, p0], by rw [c1, p1], hi, hn, hs k hk⟩
def presK (xs : List Int) (k : Nat) : List (List Int) := (List.range k).map fun n => xs.take n
theorem presK_len (xs : List Int) (k : Nat) : (presK xs k).length = k := by simp [presK]
theorem presK_succ (xs : List Int) (k : Nat) : presK xs (k + 1) = presK xs k ++ [xs.take k] := by simp [presK, List.range_succ]
theorem presK_get {xs : List Int} {k i : Nat} (h : i < k) : (presK xs k).getD i [] = xs.take i := by simp [presK, List.getD_eq_getElem?_getD, h]
def presL (xs : List Int) : List (List Int) := presK xs (xs.length + 1)
theorem Tryz.underlying44' : Tryz.prog.underlying 44 = some (.slice 26) := by kernel_rfl

set_option maxRecDepth 100000 in
set_option maxHeartbeats 8000000 in
theorem pres_any (p : Pl) (a : Option Addr) (c : Nat) (w : World) (h : PlAt w p a c) :
    Calls Tryz.prog 24 #[plV p a c] w fun e w' => ∃ v vs, e = .returned v ∧ OwnPls w' w.heap.size v p.loc (presL p.path) vs ∧ KB F0 w w' := by
  obtain ⟨w0, rfl⟩ : ∃ w0, w0 = w := ⟨_, rfl⟩
  have hsm := h.small
  have CUT := Lib.hid (fun (n : Nat) (hn : n ≤ p.path.length) (W : World) (hk : KB F0 w0 W) => cut_any p n hn a c W (h.kbF hk))
  obtain ⟨x, xs⟩ := p
  unfold plV at CUT ⊢
  simp only at CUT hsm ⊢
  obtain ⟨N, hN⟩ : ∃ N, N = xs.length := ⟨_, rfl⟩
  have HN := Lib.hid hN
  rw [← hN] at CUT hsm ⊢
  have hB := (KB.refl F0 w0).alloc (.cells #[.int .i64 x, .slice a N c] 26)
  obtain ⟨W1, hW1⟩ : ∃ W1, W1 = w0.alloc (.cells #[.int .i64 x, .slice a N c] 26) := ⟨_, rfl⟩
  have hb1 : W1.heap[w0.heap.size]? = some (.cells #[.int .i64 x, .slice a N c] 26 (0, 0)) := by rw [hW1]; exact alloc_new _ _
  rw [← hW1] at hB
  have x1 : W1.cell? ⟨w0.heap.size, 1, none⟩ = some (.slice a N c) := blk_cell hb1 1
  have HB := Lib.hid (And.intro hB hb1)
  have HW := Lib.hid hW1
  rw [hW1] at x1
  have hw : IntKind.i64.wrap ((N : Int) + 1) = ((N + 1 : Nat) : Int) := by rw [w64 (by omega) (by omega)]; omega
  clear h hN hW1 hb1 hB
  go_enter Tryz.func24, Tryz.ntmps24
  go_wp2_with fail
  rw [← HW.out]
  clear x1
  go_loopw [3, 9] (fun lv kv wr => ∃ k vs, k ≤ N + 1 ∧ kv = .int .i64 (k : Nat) ∧ Hid (OwnPls wr W1.heap.size lv x (presK xs k) vs ∧ KB F0 W1 wr)) (fun _ kv _ => N + 1 - (intOf kv).toNat)
  case atStart => exact ⟨0, [], by omega, rfl, Lib.hid ⟨ownPls_nil _ _ _, KB.refl _ _⟩⟩
  case round =>
    obtain ⟨k, vs, hk, rfl, hst⟩ := hrel
    by_cases hlt : k < N + 1
    · have d1 : decide ((k : Int) < ((N + 1 : Nat) : Int)) = true := decide_eq_true (by omega)
      have hkN : (k : Int) < ((N + 1 : Nat) : Int) := by omega
      have bx := hst.out.2.heap (fun x => x) HB.out.2
      have x0 : wr.cell? ⟨w0.heap.size, 0, none⟩ = some (.int .i64 x) := blk_cell bx 0
      have x1 : wr.cell? ⟨w0.heap.size, 1, none⟩ = some (.slice a N c) := blk_cell bx 1
      have hwk : IntKind.i64.wrap ((k : Int) + 1) = ((k + 1 : Nat) : Int) := by rw [w64 (by omega) (by omega)]; omega
      clear bx
      go_wp2_with fail
      refine (CUT.out k (by omega) _ (HB.out.1.trans hst.out.2)).mono ?_
      rintro e w2 ⟨u, rfl, hu, k2⟩
      have hul : (xs.take k).length = k := by rw [List.length_take, ← HN.out]; omega
      obtain ⟨ua, uc, rfl, -, -, -⟩ := hu.at
      rw [hul] at hu ⊢
      have Hu := Lib.hid (And.intro hu k2)
      have hown := hst.out.1
      obtain ⟨la, lc, rfl⟩ := own_lenP hown.row
      rw [presK_len] at *
      clear hu k2 x0 x1
      go_wp2_with (at_builtin; refine Stopped.out ?_)
      refine ⟨?_⟩
      obtain ⟨nb, hnb⟩ : ∃ nb, nb = w2.heap.size := ⟨_, rfl⟩
      have ka := (KB.refl F0 w2).alloc (.cells #[.int .i64 x, .slice ua k uc] 26)
      have hnew := alloc_new w2 (.cells #[.int .i64 x, .slice ua k uc] 26)
      have hown2 := hown.kbF (Hu.out.2.trans ka)
      have hrow := hown2.row
      rw [presK_len] at hrow
      refine appRow 44 26 W1.heap.size [.int .i64 x, .slice ua k uc] Tryz.infoPlace Tryz.underlying44' (by decide) (by decide) hrow rfl rfl rfl rfl hnew rfl (by intro u hu; simp only [List.mem_cons, List.not_mem_nil, or_false] at hu; rcases hu with rfl | rfl <;> rfl) (by unfold maxLen; omega) (by omega) (hst.out.2.trans (Hu.out.2.trans ka)).size ?_
      intro v' w' hr' hg'
      have HP : Hid (OwnPls w' W1.heap.size v' x (presK xs (k + 1)) (vs ++ [.slice ua k uc]) ∧ KB F0 W1 w') := Lib.hid ⟨by
        rw [presK_succ]
        exact hown2.push (Hu.out.1.kbF ka) hst.out.2.size (fun i hi g e => ((hown.paths i hi).lt g e).2) (by rw [presK_len]; exact hr') hg',
        (hst.out.2.trans (Hu.out.2.trans ka)).grown hg' (own_ge hrow (Nat.le_refl _))⟩
      clear hr' hg' hown hown2 hrow hnew ka
      go_wp2_with fail
      refine ⟨⟨k + 1, _, by omega, by go_num, HP⟩, by simp [intOf]; omega⟩
    · obtain rfl : k = N + 1 := by omega
      have d1 : decide (((N + 1 : Nat) : Int) < ((N + 1 : Nat) : Int)) = false := decide_eq_false (by omega)
      obtain ⟨la, lc, rfl⟩ := own_lenP hst.out.1.row
      go_wp2_with fail
      go_ret
      refine ⟨_, vs, rfl, ?_, HB.out.1.trans hst.out.2⟩
      unfold presL
      rw [← HN.out]
      exact hst.out.1.base HB.out.1.size
end Go.Proofs.YtpigppghcghpbaaGreatDoor

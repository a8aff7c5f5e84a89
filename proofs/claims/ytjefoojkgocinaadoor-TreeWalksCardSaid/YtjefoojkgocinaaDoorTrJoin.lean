/- tree.Join. -/
import Derived.Test.YtjefoojkgocinaaDoorTrSub
import Derived.Test.YtjefoojkgocinaaDoorRegApp
namespace Go.Proofs.YtjefoojkgocinaaDoor
open Go.RowKit

/-- Trees in a slice. -/
def TreesAt (w : World) (a : Option Addr) (l : List (List Nd)) : Prop :=
  ∀ k, k < l.length → ∃ b off, a = some ⟨b, off, none⟩ ∧ ∃ ta tc, w.cell? ⟨b, off + k, none⟩ = some (.slice ta (l.getD k []).length tc) ∧ NodesAt w ta (l.getD k []) ∧ (l.getD k []).length ≤ tc ∧ tc ≤ 9223372036854775807
theorem TreesAt.kbF {w w' : World} {a : Option Addr} {l : List (List Nd)} (h : TreesAt w a l) (hk : KB F0 w w') : TreesAt w' a l := by
  intro k hlt
  obtain ⟨b, off, ha, ta, tc, hc, hn, h1, h2⟩ := h k hlt
  exact ⟨b, off, ha, ta, tc, hk.cell (p := ⟨b, off + k, none⟩) (fun x => x) hc, hn.kbF hk, h1, h2⟩
/-- One more tree below the root. -/
def addT (out c : List Nd) : List Nd := match out with
  | [] => []
  | r :: rest => { r with l := r.l ++ [((rest.length + 1 : Nat) : Int)] } :: (rest ++ c.map (shN ((rest.length + 1 : Nat) : Int)))
def joinN (n : Nd) (l : List (List Nd)) : List Nd := l.foldl addT [{ n with l := [] }]
def sizes (l : List (List Nd)) : Nat := (l.map List.length).foldl (· + ·) 0
def joinE (n : Nd) (l : List (List Nd)) : Nat := if l.all mayN = true then (if 16384 < 1 + sizes l then 3 else chk (joinN n l)) else 2
def joinT (n : Nd) (l : List (List Nd)) : List Nd := if joinE n l = 0 then joinN n l else []
theorem foldl_add (l : List Nat) : ∀ a, l.foldl (· + ·) a = a + l.foldl (· + ·) 0 := by
  induction l with
  | nil => intro a; simp
  | cons b l ih => intro a; simp only [List.foldl_cons]; rw [ih, ih (0 + b)]; omega
theorem sizes_app (l : List (List Nd)) (c : List Nd) : sizes (l ++ [c]) = sizes l + c.length := by
  simp [sizes, List.foldl_append]
theorem sizes_cons (l : List (List Nd)) (c : List Nd) : sizes (c :: l) = c.length + sizes l := by
  simp only [sizes, List.map_cons, List.foldl_cons]; rw [foldl_add]; omega
theorem sizes_take_le (l : List (List Nd)) : ∀ k, sizes (l.take k) ≤ sizes l := by
  induction l with
  | nil => intro k; simp
  | cons c l ih =>
    intro k
    cases k with
    | zero => rw [List.take_zero]; exact Nat.zero_le _
    | succ k => rw [List.take_succ_cons, sizes_cons, sizes_cons]; have := ih k; omega
theorem sizes_le {l : List (List Nd)} {b : Nat} (h : ∀ c ∈ l, c.length ≤ b) : sizes l ≤ l.length * b := by
  induction l with
  | nil => exact Nat.zero_le _
  | cons c l ih =>
    have h1 := h c List.mem_cons_self
    have h2 := ih (fun x hx => h x (List.mem_cons_of_mem _ hx))
    rw [sizes_cons, List.length_cons, Nat.succ_mul]; omega
theorem addT_len {out c : List Nd} (h : out ≠ []) : (addT out c).length = out.length + c.length := by
  cases out with
  | nil => exact (h rfl).elim
  | cons r rest => simp [addT]; omega
theorem addT_ne {out c : List Nd} (h : out ≠ []) : addT out c ≠ [] := by
  cases out with
  | nil => exact (h rfl).elim
  | cons r rest => simp [addT]
theorem foldT_len (l : List (List Nd)) : ∀ out : List Nd, out ≠ [] → (l.foldl addT out).length = out.length + sizes l ∧ l.foldl addT out ≠ [] := by
  induction l with
  | nil => intro out h; exact ⟨by simp [sizes], h⟩
  | cons c l ih =>
    intro out h
    have := ih (addT out c) (addT_ne h)
    rw [List.foldl_cons, sizes_cons]
    refine ⟨?_, this.2⟩
    rw [this.1, addT_len h]; omega
theorem joinN_len (n : Nd) (l : List (List Nd)) : (joinN n l).length = 1 + sizes l := (foldT_len l _ (by simp)).1
theorem root_len (l : List (List Nd)) : ∀ (r : Nd) (rest : List Nd), ∃ r' rest', l.foldl addT (r :: rest) = r' :: rest' ∧ r'.l.length = r.l.length + l.length := by
  induction l with
  | nil => intro r rest; exact ⟨r, rest, rfl, rfl⟩
  | cons c l ih =>
    intro r rest
    obtain ⟨r', rest', h1, h2⟩ := ih { r with l := r.l ++ [((rest.length + 1 : Nat) : Int)] } (rest ++ c.map (shN ((rest.length + 1 : Nat) : Int)))
    exact ⟨r', rest', h1, by rw [h2]; simp; omega⟩
theorem fold_ok (l : List (List Nd)) : ∀ out : List Nd, out.length + sizes l ≤ 16384 → (∀ c ∈ l, mayN c = true) → (∀ c ∈ l, ∀ x ∈ c, NdOk x) → (∀ y ∈ out, NdOk y) → ∀ y ∈ l.foldl addT out, NdOk y := by
  induction l with
  | nil => intro out _ _ _ h; exact h
  | cons c l ih =>
    intro out hs hm hok hout
    rw [sizes_cons] at hs
    rw [List.foldl_cons]
    cases out with
    | nil =>
      refine ih _ (by simp [addT]; omega) (fun d hd => hm d (List.mem_cons_of_mem _ hd)) (fun d hd => hok d (List.mem_cons_of_mem _ hd)) ?_
      intro y hy; simp [addT] at hy
    | cons r rest =>
      refine ih _ (by rw [addT_len (by simp)]; omega) (fun d hd => hm d (List.mem_cons_of_mem _ hd)) (fun d hd => hok d (List.mem_cons_of_mem _ hd)) ?_
      intro y hy
      simp only [List.length_cons] at hs
      unfold addT at hy
      rcases List.mem_cons.1 hy with rfl | hy
      · have hr := hout r List.mem_cons_self
        refine ⟨hr.k, hr.at1, hr.at2, hr.n1, hr.n2, hr.s, fun d hd => ?_⟩
        rcases List.mem_append.1 hd with hd | hd
        · exact hr.l d hd
        · rw [List.mem_singleton] at hd; omega
      · rcases List.mem_append.1 hy with hy | hy
        · exact hout y (List.mem_cons_of_mem _ hy)
        · obtain ⟨z, hz, rfl⟩ := List.mem_map.1 hy
          have hzo := hok c List.mem_cons_self z hz
          refine ⟨hzo.k, hzo.at1, hzo.at2, hzo.n1, hzo.n2, hzo.s, fun d hd => ?_⟩
          obtain ⟨d0, hd0, rfl⟩ := List.mem_map.1 hd
          have hgood := (may_parts (hm c List.mem_cons_self)).1
          obtain ⟨q, hq, rfl⟩ := List.getElem_of_mem hz
          have e : c.getD q nd0 = c[q] := by simp [List.getD_eq_getElem?_getD, hq]
          have h1 := good_down hgood q hq d0 (by rw [e]; exact hd0)
          omega
theorem joinN_ok {x : Nd} {l : List (List Nd)} (hx : NdOk x) (hs : 1 + sizes l ≤ 16384) (hm : ∀ c ∈ l, mayN c = true) (hok : ∀ c ∈ l, ∀ x ∈ c, NdOk x) : ∀ y ∈ joinN x l, NdOk y :=
  fold_ok l _ hs hm hok (fun y hy => by
    rw [List.mem_singleton] at hy; subst hy
    exact ⟨hx.k, hx.at1, hx.at2, hx.n1, hx.n2, hx.s, fun c hc => by cases hc⟩)
def NdOks (l : List (List Nd)) : Prop := ∀ c ∈ l, ∀ x ∈ c, NdOk x

theorem trees_mem {l : List (List Nd)} {k : Nat} (h : k < l.length) : l.getD k [] ∈ l := by
  rw [List.getD_eq_getElem?_getD, List.getElem?_eq_getElem h]; exact List.getElem_mem h
theorem take_getD {α : Type} {l : List α} {k : Nat} {d : α} (h : k < l.length) : l.take (k + 1) = l.take k ++ [l.getD k d] := by
  rw [List.take_succ_eq_append_getElem h, List.getD_eq_getElem?_getD, List.getElem?_eq_getElem h]; rfl

theorem blk_cell {w : World} {g : Nat} {cs : Array Value} {t : TypeId} (h : w.heap[g]? = some (.cells cs t (0, 0))) (i : Nat) : w.cell? ⟨g, i, none⟩ = cs[i]? := by
  simp only [World.cell?, h]; rfl
theorem blk_frozen {w : World} {g : Nat} {cs : Array Value} {t : TypeId} (h : w.heap[g]? = some (.cells cs t (0, 0))) (i : Nat) : w.frozen? ⟨g, i, none⟩ = false := by
  simp [World.frozen?, h]
theorem setCell_blk {w : World} {g i : Nat} {cs : Array Value} {t : TypeId} (h : w.heap[g]? = some (.cells cs t (0, 0))) (u : Value) : (w.setCell ⟨g, i, none⟩ u).heap[g]? = some (.cells (cs.setIfInBounds i u) t (0, 0)) := by
  simp [World.setCell, Array.getElem?_modify, h]
theorem kb_set (w : World) (g i : Nat) (u : Value) : KB (fun k => k = g) w (w.setCell ⟨g, i, none⟩ u) := (KB.refl (fun k => k = g) w).setCell (p := ⟨g, i, none⟩) (fun _ => rfl) u
/-- A store into a block of another type leaves a tree's memory as it is. -/
theorem OwnTs.other {w w' : World} {B O : Nat} {v : Value} {ts : List Nd} {ls : List Value} {cs : Array Value} {t : TypeId} (h : OwnTs w B v ts ls) (hk : KB (fun k => k = O) w w') (hO : w.heap[O]? = some (.cells cs t (0, 0))) (h1 : t ≠ 25) (h2 : t ≠ 3) : OwnTs w' B v ts ls := by
  have hne : ∀ {u : Value} {e : TypeId} {z n : Nat} {xs : List Value}, w.ownsRow B e z u n xs → e ≠ t → w'.ownsRow B e z u n xs := fun hu he => own_kb hu hk (fun g e1 e2 => by
    obtain ⟨c1, h1, hb⟩ := own_block hu e1
    subst e2
    rw [hO] at h1
    simp only [Option.some.injEq, Obj.cells.injEq] at h1
    exact he h1.2.1.symm)
  exact ⟨h.len, hne h.row (fun e => h1 e.symm), fun k hk => hne (h.lists k hk) (fun e => h2 e.symm)⟩
theorem rowCells_app2 : ∀ (ts : List Nd) (ls : List Value) (us : List Nd) (ms : List Value), ls.length = ts.length → rowCells (ts ++ us) (ls ++ ms) = rowCells ts ls ++ rowCells us ms
  | [], [], _, _, _ => by simp [rowCells]
  | y :: ys, m :: ms', us, ms, h => by
    simp only [List.cons_append, rowCells, rowCells_app2 ys ms' us ms (by simpa using h), List.append_assoc]
/-- Two trees' nodes, one behind the other. -/
theorem OwnTs.append {w w' : World} {B : Nat} {v v2 v' : Value} {ts us : List Nd} {ls ms : List Value} (h : OwnTs w B v ts ls) (h2 : OwnTs w B v2 us ms)
    (h' : w'.ownsRow B 25 5 v' (ts.length + us.length) (rowCells ts ls ++ rowCells us ms)) (hg : w.grownBy w' v.ownBlock) : OwnTs w' B v' (ts ++ us) (ls ++ ms) := by
  have hne : ∀ {u : Value} {n : Nat} {xs : List Value}, w.ownsRow B 3 1 u n xs → w'.ownsRow B 3 1 u n xs := fun hu => own_grown hu hg (fun g e1 e2 => by
    obtain ⟨c1, h1, -⟩ := own_block hu e1
    obtain ⟨c2, h2, -⟩ := own_block h.row e2
    rw [h1] at h2; cases h2)
  refine ⟨by simp [h.len, h2.len], ?_, ?_⟩
  · rw [rowCells_app2 _ _ _ _ h.len, List.length_append]; exact h'
  · intro k hk
    rw [List.length_append] at hk
    by_cases hlt : k < ts.length
    · have e1 : (ls ++ ms).getD k undef = ls.getD k undef := by simp [List.getD_eq_getElem?_getD, List.getElem?_append_left (show k < ls.length by rw [h.len]; exact hlt)]
      have e2 : (ts ++ us).getD k nd0 = ts.getD k nd0 := by simp [List.getD_eq_getElem?_getD, List.getElem?_append_left hlt]
      rw [e1, e2]
      exact hne (h.lists k hlt)
    · have e1 : (ls ++ ms).getD k undef = ms.getD (k - ts.length) undef := by simp [List.getD_eq_getElem?_getD, List.getElem?_append_right (show ls.length ≤ k by rw [h.len]; omega), h.len]
      have e2 : (ts ++ us).getD k nd0 = us.getD (k - ts.length) nd0 := by simp [List.getD_eq_getElem?_getD, List.getElem?_append_right (show ts.length ≤ k by omega)]
      rw [e1, e2]
      exact hne (h2.lists _ (by omega))
/-- The root's list apart from the others. -/
def Apart (l0 : Value) (ls : List Value) : Prop := ∀ u ∈ ls, ∀ g, u.ownBlock = some g → l0.ownBlock ≠ some g
theorem OwnTs.rootCell {w : World} {B g n cap : Nat} {r : Nd} {rest : List Nd} {l0 : Value} {ls : List Value} (h : OwnTs w B (.slice (some ⟨g, 0, none⟩) n cap) (r :: rest) (l0 :: ls)) :
    w.cell? ⟨g, 4, none⟩ = some l0 ∧ w.frozen? ⟨g, 4, none⟩ = false ∧ ∃ cur, w.heap[g]? = some (.cells cur 25 (0, 0)) := by
  obtain ⟨hr1, hr2⟩ := h.row
  rcases hr2 with ⟨hr2, -⟩ | ⟨g', cap', cur, hv, hb, hh, hcap, hm, hsz, hx⟩
  · cases hr2
  simp only [Value.slice.injEq, Option.some.injEq, Addr.mk.injEq, and_true] at hv
  obtain ⟨rfl, rfl, rfl⟩ := hv
  refine ⟨?_, blk_frozen hh 4, cur, hh⟩
  rw [blk_cell hh 4, ← Array.getElem?_toList]
  have e := congrArg (fun l => l[4]?) hx
  simp only [List.getElem?_take] at e
  rw [if_pos (by simp; omega)] at e
  rw [e]; rfl
theorem OwnTs.one {w : World} {B : Nat} {v : Value} {ts : List Nd} {ls : List Value} (h : OwnTs w B v ts ls) : ∀ u ∈ rowCells ts ls, u.oneCell' = true := by
  intro u hu
  obtain ⟨i, hi, rfl⟩ := List.getElem_of_mem hu
  have hlen := rowCells_len ts ls h.len
  have hk : i / 5 < ts.length := by omega
  have e := rowCells_get ts ls h.len (i / 5) (i % 5) hk (Nat.mod_lt _ (by decide))
  rw [show i / 5 * 5 + i % 5 = i by omega, List.getElem?_eq_getElem hi] at e
  obtain ⟨a1, c1, e2, -⟩ := own_shape (h.lists _ hk)
  rw [e2] at e
  generalize (rowCells ts ls)[i] = x at e
  have h5 : i % 5 < 5 := Nat.mod_lt _ (by decide)
  generalize i % 5 = q at e h5
  match q, h5 with
  | 0, _ => simp [ndCells] at e; subst e; rfl
  | 1, _ => simp [ndCells] at e; subst e; rfl
  | 2, _ => simp [ndCells] at e; subst e; rfl
  | 3, _ => simp [ndCells] at e; subst e; rfl
  | 4, _ => simp [ndCells] at e; subst e; rfl
theorem opVal_imp {P : Program} {o : Oper} {a : Act} {w : World} {ψ φ : Value → World → Prop} (h : OpVal P o a w ψ) (hi : ∀ v w', ψ v w' → φ v w') : OpVal P o a w φ := by
  unfold OpVal at h ⊢
  split at h
  · exact hi _ _ h
  · exact h.mono fun e w' ⟨v, h1, h2⟩ => ⟨v, h1, hi _ _ h2⟩
  · exact h
theorem KB.above {S : Nat → Prop} {a b c : World} (h : KB F0 a b) (k : KB S b c) (hS : ∀ i, S i → a.heap.size ≤ i) : KB F0 a c :=
  ⟨k.os.trans h.os, k.tape.trans h.tape, k.output.trans h.output, Nat.le_trans h.size k.size, fun i hi _ =>
    (k.block i (Nat.lt_of_lt_of_le hi h.size) (fun hs => by have := hS i hs; omega)).trans (h.block i hi (fun x => x))⟩
/-- The root's list changed. -/
theorem OwnTs.root {w w1 : World} {B g n cap : Nat} {r : Nd} {rest : List Nd} {l0 lv : Value} {ls : List Value} {c : Int} (h : OwnTs w B (.slice (some ⟨g, 0, none⟩) n cap) (r :: rest) (l0 :: ls)) (hap : Apart l0 ls)
    (hk : KB (fun k => l0.ownBlock = some k) w w1) (hl : w1.ownsRow B 3 1 lv (r.l.length + 1) (ints r.l ++ [.int .i64 c])) :
    OwnTs (w1.setCell ⟨g, 4, none⟩ lv) B (.slice (some ⟨g, 0, none⟩) n cap) ({ r with l := r.l ++ [c] } :: rest) (lv :: ls) := by
  have hl0 : ∀ g', l0.ownBlock = some g' → ∃ cur, w.heap[g']? = some (.cells cur 3 (0, 0)) := fun g' hg' => by
    obtain ⟨cur, h1, -⟩ := own_block (h.lists 0 (by simp)) (g := g') hg'
    exact ⟨cur, h1⟩
  obtain ⟨hr1, hr2⟩ := h.row
  rcases hr2 with ⟨hr2, -⟩ | ⟨g', cap', cur, hv, hb, hh, hcap, hm, hsz, hx⟩
  · cases hr2
  simp only [Value.slice.injEq, Option.some.injEq, Addr.mk.injEq, and_true] at hv
  obtain ⟨rfl, rfl, rfl⟩ := hv
  have hg1 : w1.heap[g]? = some (.cells cur 25 (0, 0)) := by
    rw [hk.block g (heap_lt hh) (fun e => by
      obtain ⟨cur', h1⟩ := hl0 g e
      rw [hh] at h1; cases h1)]; exact hh
  have ks := kb_set w1 g 4 lv
  have hkeep : ∀ {u : Value} {m : Nat} {xs : List Value}, w1.ownsRow B 3 1 u m xs → (w1.setCell ⟨g, 4, none⟩ lv).ownsRow B 3 1 u m xs := fun hu => own_kb hu ks (fun g1 e1 e2 => by
    obtain ⟨c1, h1, -⟩ := own_block hu e1
    subst e2
    rw [hg1] at h1; cases h1)
  refine ⟨by have := h.len; simpa using this, ⟨by rw [rowCells_len _ _ (by have := h.len; simpa using this)], Or.inr ⟨g, cap, cur.setIfInBounds 4 lv, by simp, hb, setCell_blk hg1 lv, hcap, hm, by rw [Array.size_setIfInBounds]; exact hsz, ?_⟩⟩, ?_⟩
  · rw [Array.toList_setIfInBounds, List.take_set]
    have e0 : List.take ((r :: rest).length * 5) cur.toList = rowCells (r :: rest) (l0 :: ls) := hx
    rw [show ({ r with l := r.l ++ [c] } :: rest : List Nd).length * 5 = (r :: rest).length * 5 by simp, e0]
    simp [rowCells, ndCells]
  · intro k hk'
    cases k with
    | zero =>
      have := hkeep hl
      have e : ints (r.l ++ [c]) = ints r.l ++ [.int .i64 c] := by simp [ints]
      simp only [List.getD_cons_zero, List.length_append, List.length_singleton, e]
      exact this
    | succ k =>
      have h0 := h.lists (k + 1) (by simpa using hk')
      simp only [List.getD_cons_succ] at h0 ⊢
      refine hkeep (own_kb h0 hk (fun g1 e1 e2 => ?_))
      have hkl : k < ls.length := by have := h.len; simp at this hk'; omega
      exact hap _ (by rw [List.getD_eq_getElem?_getD, List.getElem?_eq_getElem hkl]; exact List.getElem_mem hkl) g1 e1 e2

set_option maxRecDepth 100000 in
set_option maxHeartbeats 8000000 in
theorem join_any (x : Nd) (hx : NdOk x) (xa : Option Addr) (xl xc : Nat) (l : List (List Nd)) (hl : l.length ≤ 20000) (hll : ∀ c ∈ l, c.length ≤ 20000) (hok : NdOks l) (a : Option Addr) (cap : Nat) (w : World) (hts : TreesAt w a l) (hT : Tab w) :
    Calls Tryd.prog 11 #[.agg #[.int .u8 (x.k : Nat), .int .i64 x.at_, .int .i64 x.n, .string x.s, .slice xa xl xc], .slice a l.length cap] w
      fun e w' => ∃ v ls, e = .returned (.tuple #[.agg #[v], .int .i64 (joinE x l : Nat)]) ∧ OwnTs w' w.heap.size v (joinT x l) ls ∧ KB F0 w w' := by
  obtain ⟨w0, rfl⟩ : ∃ w0, w0 = w := ⟨_, rfl⟩
  obtain ⟨N, hN⟩ : ∃ N, N = l.length := ⟨_, rfl⟩
  have hsz := sizes_le hll
  rw [← hN] at hl hsz ⊢
  have HN := Lib.hid hN
  obtain ⟨W1, hW1⟩ : ∃ W1, W1 = ((w0.alloc (.cells #[.int .u8 (x.k : Nat), .int .i64 x.at_, .int .i64 x.n, .string x.s, .slice xa xl xc] 25)).alloc (.cells #[.slice none 0 0] 31)) := ⟨_, rfl⟩
  have k1 : KB F0 w0 W1 := by rw [hW1]; exact ((KB.refl _ _).alloc _).alloc _
  have hs0 : (w0.alloc (.cells #[.int .u8 (x.k : Nat), .int .i64 x.at_, .int .i64 x.n, .string x.s, .slice xa xl xc] 25)).heap.size = w0.heap.size + 1 := by simp
  have b0 : W1.heap[w0.heap.size]? = some (.cells #[.int .u8 (x.k : Nat), .int .i64 x.at_, .int .i64 x.n, .string x.s, .slice xa xl xc] 25 (0, 0)) := by
    rw [hW1]; exact ((KB.refl F0 _).alloc _).heap (fun x => x) (alloc_new _ _)
  have b1 : W1.heap[w0.heap.size + 1]? = some (.cells #[.slice none 0 0] 31 (0, 0)) := by
    rw [hW1, ← hs0]; exact alloc_new _ _
  have hs1 : W1.heap.size = w0.heap.size + 2 := by rw [hW1]; simp
  have H1 := Lib.hid (And.intro k1 (And.intro b0 (And.intro b1 hs1)))
  have HW1 := Lib.hid hW1
  have HTS := Lib.hid (And.intro hts (And.intro hT (And.intro hok hll)))
  obtain ⟨R, hR⟩ : ∃ R, R = joinT x l := ⟨_, rfl⟩
  obtain ⟨E, hE⟩ : ∃ E, E = joinE x l := ⟨_, rfl⟩
  rw [← hR, ← hE]
  have HR := Lib.hid (And.intro hR hE)
  have Hsz := Lib.hid hsz
  have hszb : sizes l ≤ 400000000 := Nat.le_trans hsz (by omega)
  clear hts hT hok hN hR hE k1 b0 b1 hs1 hs0 hW1 hsz hll
  go_enter Tryd.func11, Tryd.ntmps11
  go_wp2_with fail
  rw [← HW1.out]
  go_loopw [17, 6] (fun kv sv wr => ∃ k : Nat, k ≤ N ∧ kv = .int .i64 k ∧ sv = .int .i64 ((1 + sizes (l.take k) : Nat) : Int) ∧ KB F0 W1 wr ∧ Hid (∀ c ∈ l.take k, mayN c = true)) (fun kv _ _ => N - (intOf kv).toNat)
  case atStart => exact ⟨0, by omega, rfl, by rw [List.take_zero]; rfl, KB.refl _ _, Lib.hid (fun c hc => by simp at hc)⟩
  case round =>
    obtain ⟨k, hk, rfl, rfl, hkb, hmay⟩ := hrel
    have HK := Lib.hid hkb
    clear hkb
    have hst := sizes_take_le l k
    by_cases hlt : k < N
    · have hlt' : k < l.length := by rw [← HN.out]; exact hlt
      obtain ⟨b, off, rfl, ta, tc, hcl, hnd, hc1, hc2⟩ := HTS.out.1 k hlt'
      have hm := trees_mem hlt'
      have hcl := (H1.out.1.trans HK.out).cell (p := ⟨b, off + k, none⟩) (fun x => x) hcl
      have Hm := Lib.hid (fun (W : World) (h : KB F0 w0 W) => may_any (l.getD k []) (by have := HTS.out.2.2.2 _ hm; omega) (HTS.out.2.2.1 _ hm) ta tc W (hnd.kbF h) (HTS.out.2.1.kb h))
      have htk := take_getD (d := []) hlt'
      have hcs := HTS.out.2.2.2 _ hm
      have Hall := Lib.hid (fun (h : mayN (l.getD k []) = false) => (show l.all mayN = false from by
        rw [List.all_eq_false]; exact ⟨_, hm, by rw [h]; decide⟩))
      generalize l.getD k [] = c at hcl hm Hm htk hcs Hall hnd hc1
      obtain ⟨M, hM⟩ : ∃ M, M = c.length := ⟨_, rfl⟩
      rw [← hM] at hcl Hm hcs hc1
      have HM := Lib.hid hM
      have hsk : sizes (l.take (k + 1)) = sizes (l.take k) + M := by rw [htk, sizes_app, ← HM.out]
      have Hmay' := Lib.hid (fun (h : mayN c = true) => (show ∀ y ∈ l.take (k + 1), mayN y = true from fun y hy => by
        rw [htk] at hy
        rcases List.mem_append.1 hy with hy | hy
        · exact hmay.out y hy
        · rw [List.mem_singleton] at hy; rw [hy]; exact h))
      have Hsk := Lib.hid hsk
      clear hnd hm htk hM hmay hsk
      generalize mayN c = m at Hm Hall Hmay'
      generalize sizes (l.take k) = sk at hst Hsk
      go_wp2_with fail
      refine (Hm.out _ ((H1.out.1.trans HK.out).alloc _)).mono ?_
      rintro e W2 ⟨rfl, hk2⟩
      have hc8 := hk2.cell (p := ⟨wr.heap.size, 0, none⟩) (fun x => x) (new_cell wr #[.slice ta M tc] 31 0)
      have HK2 := Lib.hid ((HK.out.alloc (.cells #[.slice ta M tc] 31)).trans hk2)
      clear hk2
      cases m
      · have HE : Hid (R = [] ∧ E = 2) := Lib.hid (by
          have := Hall.out rfl
          have e : joinE x l = 2 := by rw [joinE, this]; rfl
          rw [HR.out.1, HR.out.2, joinT, e]
          exact ⟨rfl, rfl⟩)
        have hb1 := HK2.out.heap (fun x => x) H1.out.2.2.1
        have b1 := blk_cell hb1 0
        have hfz := blk_frozen hb1 0
        have Hc1 := Lib.hid (World.cell?_setCell_same W2 ⟨w0.heap.size + 1, 0, none⟩ (.slice none 0 0) b1)
        have Hkf := Lib.hid ((H1.out.1.trans HK2.out).setCell (p := ⟨w0.heap.size + 1, 0, none⟩) (fun h => by
          have h1 : w0.heap.size + 1 < w0.heap.size := h; omega) (.slice none 0 0))
        clear hb1
        go_wp2
        (try simp only [Exit.inBlock, Exit.then])
        refine ret_cell_tmp rfl rfl Hc1.out rfl ?_
        exact ⟨_, [], by rw [HE.out.2]; rfl, by rw [HE.out.1]; exact ownTs_nil _ _, Hkf.out⟩
      · have hmk := Lib.hid (Hmay'.out rfl)
        have hc8' : W2.cell? ⟨wr.heap.size, 0, none⟩ = some (.slice ta M tc) := hc8
        clear hc8
        go_wp2
        go_roundw
        case rel => exact ⟨k + 1, by omega, by go_num, by rw [Hsk.out]; go_num, HK2.out, hmk⟩
        case measure => simp [intOf]; omega
    · obtain rfl : k = N := by omega
      have hall : l.all mayN = true := by
        rw [List.all_eq_true]
        intro c hc
        refine hmay.out c ?_
        rw [List.take_of_length_le (by rw [← HN.out]; exact Nat.le_refl _)]; exact hc
      have hsl : sizes (l.take k) = sizes l := by rw [List.take_of_length_le (by rw [← HN.out]; exact Nat.le_refl _)]
      rw [hsl]
      have Hall := Lib.hid hall
      by_cases hlong : 16384 < 1 + sizes l
      · have HE : Hid (R = [] ∧ E = 3) := Lib.hid (by
          have e : joinE x l = 3 := by rw [joinE, if_pos hall, if_pos hlong]
          rw [HR.out.1, HR.out.2, joinT, e]
          exact ⟨rfl, rfl⟩)
        generalize sizes l = sl at *
        clear hall hsl hst
        have hb1 := HK.out.heap (fun x => x) H1.out.2.2.1
        have b1 := blk_cell hb1 0
        have hfz := blk_frozen hb1 0
        have Hc1 := Lib.hid (World.cell?_setCell_same wr ⟨w0.heap.size + 1, 0, none⟩ (.slice none 0 0) b1)
        have Hkf := Lib.hid ((H1.out.1.trans HK.out).setCell (p := ⟨w0.heap.size + 1, 0, none⟩) (fun h => by
          have h1 : w0.heap.size + 1 < w0.heap.size := h; omega) (.slice none 0 0))
        clear hb1
        go_wp2
        (try simp only [Exit.inBlock, Exit.then])
        refine ret_cell_tmp rfl rfl Hc1.out rfl ?_
        exact ⟨_, [], by rw [HE.out.2]; rfl, by rw [HE.out.1]; exact ownTs_nil _ _, Hkf.out⟩
      · have hEc : Hid (E = chk (joinN x l)) := Lib.hid (by rw [HR.out.2, joinE, if_pos hall, if_neg hlong])
        have hb0 := HK.out.heap (fun x => x) H1.out.2.1
        have hb1 := HK.out.heap (fun x => x) H1.out.2.2.1
        have b04 := blk_cell hb0 4
        have b04f := blk_frozen hb0 4
        have hset := setCell_blk (i := 4) hb0 (.slice none 0 0)
        have y0 := blk_cell hset 0
        have y1 := blk_cell hset 1
        have y2 := blk_cell hset 2
        have y3 := blk_cell hset 3
        have y4 := blk_cell hset 4
        simp at b04 y0 y1 y2 y3 y4
        obtain ⟨sl, hsle⟩ : ∃ sl, sl = sizes l := ⟨_, rfl⟩
        rw [← hsle] at hlong hszb hst Hsz ⊢
        have Hsle := Lib.hid hsle
        have hsl16 : 1 + sl ≤ 16384 := by omega
        obtain ⟨S1, hS1⟩ : ∃ S1, S1 = 1 + sl := ⟨_, rfl⟩
        rw [← hS1] at hlong ⊢
        have hz2 : decide ((16384 : Int) < (S1 : Int)) = false := decide_eq_false (by omega)
        clear hS1
        clear hall hsl hset hsle
        go_wp2_with fail
        have kS := kb_set wr w0.heap.size 4 (.slice none 0 0)
        have hkS : KB F0 w0 (wr.setCell ⟨w0.heap.size, 4, none⟩ (.slice none 0 0)) := (H1.out.1.trans HK.out).setCell (p := ⟨w0.heap.size, 4, none⟩) (fun h => by
          have h1 : w0.heap.size < w0.heap.size := h; omega) _
        have hb1S := kS.heap (b := w0.heap.size + 1) (fun (e : w0.heap.size + 1 = w0.heap.size) => by omega) hb1
        obtain ⟨V, hV⟩ : ∃ V, V = wr.setCell ⟨w0.heap.size, 4, none⟩ (.slice none 0 0) := ⟨_, rfl⟩
        have hVs : V.heap.size = wr.heap.size := by rw [hV]; simp [World.setCell]
        rw [← hV] at kS hkS hb1S ⊢
        rw [← hVs]
        have hs4 : (V.alloc (.cells #[.int .u8 (x.k : Nat), .int .i64 x.at_, .int .i64 x.n, .string x.s, .slice none 0 0] 25)).heap.size = V.heap.size + 1 := by simp
        obtain ⟨W3, hW3⟩ : ∃ W3, W3 = ((V.alloc (.cells #[.int .u8 (x.k : Nat), .int .i64 x.at_, .int .i64 x.n, .string x.s, .slice none 0 0] 25)).alloc (.cells #[.slice (some ⟨V.heap.size, 0, none⟩) 1 1] 31)) := ⟨_, rfl⟩
        rw [← hW3]
        have k3 : KB F0 V W3 := by rw [hW3]; exact ((KB.refl _ _).alloc _).alloc _
        have hO : W3.heap[V.heap.size + 1]? = some (.cells #[.slice (some ⟨V.heap.size, 0, none⟩) 1 1] 31 (0, 0)) := by rw [hW3, ← hs4]; exact alloc_new _ _
        have hN3 : W3.heap[V.heap.size]? = some (.cells #[.int .u8 (x.k : Nat), .int .i64 x.at_, .int .i64 x.n, .string x.s, .slice none 0 0] 25 (0, 0)) := by
          rw [hW3]; exact ((KB.refl F0 _).alloc _).heap (fun x => x) (alloc_new _ _)
        have hvs : w0.heap.size ≤ V.heap.size := hkS.size
        have hown0 : OwnTs W3 w0.heap.size (.slice (some ⟨V.heap.size, 0, none⟩) 1 1) [{ x with l := [] }] [.slice none 0 0] := ⟨rfl, ⟨rfl, Or.inr ⟨V.heap.size, 1, _, rfl, hvs, hN3, Nat.le_refl _, by decide, rfl, rfl⟩⟩, fun k hk => by
          obtain rfl : k = 0 := by simp at hk; omega
          exact World.ownsRow_nil _ _ _ _⟩
        have hT3 := (HTS.out.2.1.kb hkS).kb k3
        have HI := Lib.hid (And.intro hown0 (And.intro hO (And.intro (k3.heap (fun x => x) hb1S) (hkS.trans k3))))
        obtain ⟨O, hOe⟩ : ∃ O, O = V.heap.size + 1 := ⟨_, rfl⟩
        rw [← hOe] at HI ⊢
        have hOb : w0.heap.size + 1 < O := by have h1 := (KB.size HK.out); rw [H1.out.2.2.2] at h1; omega
        obtain ⟨G0, hG0⟩ : ∃ G0, G0 = V.heap.size := ⟨_, rfl⟩
        rw [← hG0] at HI ⊢
        clear hb0 hb1 b04 b04f y0 y1 y2 y3 y4 kS hkS hb1S hV hVs hs4 hW3 k3 hO hN3 hvs hown0 hT3 hOe hG0
        go_loopw [40] (fun kv wr => ∃ (j : Nat) (v : Value) (r : Nd) (rest : List Nd) (l0 : Value) (ls : List Value), j ≤ k ∧ kv = .int .i64 j ∧ (l.take j).foldl addT [{ x with l := [] }] = r :: rest ∧ r.l.length = j ∧ OwnTs wr w0.heap.size v (r :: rest) (l0 :: ls) ∧ Apart l0 ls ∧
            wr.heap[O]? = some (.cells #[v] 31 (0, 0)) ∧ wr.heap[w0.heap.size + 1]? = some (.cells #[.slice none 0 0] 31 (0, 0)) ∧ KB F0 w0 wr) (fun kv _ => k - (intOf kv).toNat)
        case atStart => exact ⟨0, _, _, _, _, _, by omega, rfl, by rw [List.take_zero]; rfl, rfl, HI.out.1, (fun u hu => by cases hu), HI.out.2.1, HI.out.2.2.1, HI.out.2.2.2⟩
        case round =>
          obtain ⟨j, v, r, rest, l0, ls, hj, rfl, hjo, hrl, hown, hap, hO, hb1, hkb⟩ := hrel
          by_cases hlt : j < k
          · have hlt' : j < l.length := by rw [← HN.out]; exact hlt
            obtain ⟨b, off, rfl, ta, tc, hcl, hnd, hc1, hc2⟩ := HTS.out.1 j hlt'
            have hm := trees_mem hlt'
            have hcl := hkb.cell (p := ⟨b, off + j, none⟩) (fun x => x) hcl
            have htk := take_getD (d := []) hlt'
            have hcs := HTS.out.2.2.2 _ hm
            have hcm := List.all_eq_true.1 Hall.out _ hm
            have hcok := HTS.out.2.2.1 _ hm
            have hln := (foldT_len (l.take j) [{ x with l := [] }] (by simp)).1
            rw [hjo] at hln
            have hst := sizes_take_le l j
            have hst2 := sizes_take_le l (j + 1)
            rw [htk, sizes_app] at hst2
            obtain ⟨c, hce⟩ : ∃ c, c = l.getD j [] := ⟨_, rfl⟩
            rw [← hce] at hcl hm htk hcs hnd hc1 hcm hcok hst2
            have hjo2 : Hid ((l.take (j + 1)).foldl addT [{ x with l := [] }] = { r with l := r.l ++ [((rest.length + 1 : Nat) : Int)] } :: (rest ++ c.map (shN ((rest.length + 1 : Nat) : Int)))) := Lib.hid (by
              rw [htk, List.foldl_append, hjo]; rfl)
            obtain ⟨M, hM⟩ : ∃ M, M = c.length := ⟨_, rfl⟩
            rw [← hM] at hcl hcs hc1 hst2
            have HM := Lib.hid hM
            obtain ⟨n, hn⟩ : ∃ n, n = rest.length + 1 := ⟨_, rfl⟩
            have hnb : n + M ≤ 16384 := by have := Hsle.out; simp at hln; omega
            have Hn := Lib.hid hn
            have hn0 : 0 < n := by omega
            rw [← hn] at hjo2
            obtain ⟨va, vc, rfl, hvn, hvc1, hvc2, hva⟩ := hown.nodes
            rcases hva with rfl | ⟨g, rfl, hgB⟩
            · obtain ⟨b9, o9, e, h9⟩ := hvn 0 (by simp)
              cases e
            rw [show (r :: rest).length = n by rw [hn]; rfl] at hO hown hvc1
            obtain ⟨hgc, hgf, cur, hgh⟩ := hown.rootCell
            unfold maxLen at hvc2
            clear hvn
            have HC := Lib.hid (And.intro hcm (And.intro hcok hnd))
            have HO := Lib.hid (And.intro hown (And.intro hap (And.intro hO (And.intro hb1 hkb))))
            have hOc : (wr.alloc (.cells #[.slice ta M tc] 31)).cell? ⟨O, 0, none⟩ = some (.slice (some ⟨g, 0, none⟩) n vc) := blk_cell (((KB.refl F0 wr).alloc _).heap (fun x => x) hO) 0
            clear hnd hcm hcok hM hn hjo htk hce hln hm hown hap hO hb1 hkb
            go_wp2_with fail
            obtain ⟨W4, hW4⟩ : ∃ W4, W4 = wr.alloc (.cells #[.slice ta M tc] 31) := ⟨_, rfl⟩
            rw [← hW4]
            have k4 : KB F0 wr W4 := by rw [hW4]; exact (KB.refl _ _).alloc _
            have hs4 : W4.heap.size = wr.heap.size + 1 := by rw [hW4]; simp
            have hL4 : W4.heap[wr.heap.size]? = some (.cells #[.slice ta M tc] 31 (0, 0)) := by rw [hW4]; exact alloc_new _ _
            obtain ⟨L, hL⟩ : ∃ L, L = wr.heap.size := ⟨_, rfl⟩
            rw [← hL] at hL4 hs4 ⊢
            have hown4 := HO.out.1.kbF k4
            have hl0row := hown4.lists 0 (by simp)
            simp only [List.getD_cons_zero] at hl0row
            rw [hrl] at hl0row
            have hO4 := k4.heap (fun x => x) HO.out.2.2.1
            have hg4 := k4.heap (fun x => x) hgh
            have hgc4 := k4.cell (p := ⟨g, 4, none⟩) (fun x => x) hgc
            have hap4 := HO.out.2.1
            have hOL : O < L := by rw [hL]; exact heap_lt HO.out.2.2.1
            have hlb : ∀ g', l0.ownBlock = some g' → g' < L ∧ w0.heap.size ≤ g' := fun g' hg' => by
              obtain ⟨cu, h1, h2⟩ := own_block (HO.out.1.lists 0 (by simp)) (g := g') hg'
              exact ⟨by rw [hL]; exact heap_lt h1, h2⟩
            have hnO : ¬ l0.ownBlock = some O := fun e => by
              obtain ⟨cu, h1, -⟩ := own_block hl0row e
              rw [hO4] at h1; cases h1
            have hng : ¬ l0.ownBlock = some g := fun e => by
              obtain ⟨cu, h1, -⟩ := own_block hl0row e
              rw [hg4] at h1; cases h1
            have R1 : ∀ w, GA w0.heap.size 3 l0 (j + 1) (ints r.l ++ [.int .i64 n]) W4 w → w.cell? ⟨O, 0, none⟩ = some (.slice (some ⟨g, 0, none⟩) n vc) := fun w hG => blk_cell (hG.1.heap hnO hO4) 0
            have R2 : ∀ w, GA w0.heap.size 3 l0 (j + 1) (ints r.l ++ [.int .i64 n]) W4 w → w.cell? ⟨g, 4, none⟩ = some l0 := fun w hG => hG.1.cell (p := ⟨g, 4, none⟩) hng hgc4
            have hHR := Lib.hid (And.intro hown4 (And.intro hap4 (And.intro hO4 (And.intro hL4 (And.intro hl0row (And.intro hlb (And.intro hnO hng)))))))
            have hK4 := Lib.hid (HO.out.2.2.2.2.trans k4)
            have hB4 := Lib.hid (k4.heap (fun x => x) HO.out.2.2.2.1)
            clear hgc hgf hgh k4 hL4 hown4 hl0row hO4 hg4 hap4 hlb hnO hng hW4 hL
            refine wp_region_rv 10 (GA w0.heap.size 3 l0 (j + 1) (ints r.l ++ [.int .i64 n])) (kindW [(8, fun v => OneRow W4.heap.size #[.int .i64 n] 3 v, OneRowAt W4.heap.size #[.int .i64 n] 3), (9, fun v => ∃ a c, v = .slice a (j + 1) c, FA w0.heap.size W4.heap.size 3 l0 (j + 1) (ints r.l ++ [.int .i64 n]))])
              (by kernel_rfl) (by kernel_rfl) GA.trans GA.refl (GA.start _) (kindW_monoG _ (by
                intro p hp; simp only [List.mem_cons, List.not_mem_nil, or_false] at hp
                rcases hp with rfl | rfl
                · rintro v a b hG ⟨nb, h1, h2, h3⟩
                  exact ⟨nb, h1, h2, hG.1.heap (fun e => by have := (hHR.out.2.2.2.2.2.1 nb e).1; omega) h3⟩
                · intro v a b hG hf
                  exact hf.lasts hG)) ?_
            simp only [List.take_succ_cons, List.take_zero, List.drop_succ_cons, List.drop_zero]
            iterate 8 (refine rv_det (by kernel_rfl) rfl (by intro w hG hH; have hc0 := R1 w hG; have hc1 := R2 w hG; go_simp; first | done | with_reducible rfl) ?_; simp only [Act.put, List.setIfInBounds_toArray, List.set_cons_zero, List.set_cons_succ])
            refine rv_rel (by kernel_rfl) rfl ⟨.slice (some ⟨_, 0, none⟩) 1 1, _, rfl, Nat.le_refl _⟩ (fun w hG hH => opVal_value (v := .slice (some ⟨w.heap.size, 0, none⟩) 1 1) (w' := w.alloc (.cells #[.int .i64 n] 3)) (by go_simp; first | done | rfl)
              ⟨⟨_, rfl, hG.1.size⟩, GA.kb ((KB.refl (fun _ => False) w).alloc _) (fun _ x => x) (fun g' hg' => by have := (hHR.out.2.2.2.2.2.1 g' hg').1; have := hG.1.size; omega), ⟨_, rfl, hG.1.size, alloc_new w _⟩⟩) ?_
            rintro v ⟨nb, rfl, hnb4⟩
            simp only [Act.put, List.setIfInBounds_toArray, List.set_cons_zero, List.set_cons_succ]
            refine rv_rel (by kernel_rfl) rfl ⟨.slice none (j + 1) 0, _, _, rfl⟩ (fun w hG hH => by
              obtain ⟨nb', e, -, hrow⟩ := hH (8, fun w => OneRowAt W4.heap.size #[.int .i64 n] 3 (.slice (some ⟨nb, 0, none⟩) 1 1) w) List.mem_cons_self (by kernel_rfl)
              simp only [Value.slice.injEq, Option.some.injEq, Addr.mk.injEq, and_true] at e
              subst e
              have hxl : (ints r.l).length = j := by rw [ints_len]; exact hrl
              have htk : (ints r.l ++ [Value.int IntKind.i64 n]).take j = ints r.l := by rw [← hxl]; exact List.take_left
              have hold : w.ownsRow w0.heap.size 3 1 l0 j (ints r.l) := by
                have := GA.old (m := j) hG (by rw [htk]; exact hHR.out.2.2.2.2.1) (by omega)
                rwa [htk] at this
              have hsw := hG.1.size
              refine opVal_imp (opVal_append (P := Tryd.prog) w0.heap.size W4.heap.size hsw (.tmp 53) (.tmp 55) 23 3 rfl Tryd.infoInt Tryd.underlying23 rfl l0 j (ints r.l) (by go_simp; first | done | rfl) hold nb 1 (.int .i64 n) 3 (by go_simp; first | done | rfl) hrow rfl (by unfold maxLen; omega) (by omega) (by have := hK4.out.size; omega)) ?_
              rintro v w' ⟨h1, h2⟩
              obtain ⟨a1, c1, e, -⟩ := own_shape h1.1
              exact ⟨⟨a1, c1, e⟩, h2, h1⟩) ?_
            rintro v ⟨va, vcc, rfl⟩
            simp only [Act.put, List.setIfInBounds_toArray, List.set_cons_zero, List.set_cons_succ]
            refine rv_nil (fun w hG hH => ?_)
            obtain ⟨hfa1, hfa2⟩ : FA w0.heap.size W4.heap.size 3 l0 (j + 1) (ints r.l ++ [.int .i64 n]) (.slice va (j + 1) vcc) w := hH (9, fun w => FA w0.heap.size W4.heap.size 3 l0 (j + 1) (ints r.l ++ [.int .i64 n]) (.slice va (j + 1) vcc) w) List.mem_cons_self
            have hkG := hG.1
            obtain ⟨hc4, hf4, cur4, hh4⟩ := hHR.out.1.rootCell
            have hgw := hkG.heap hHR.out.2.2.2.2.2.2.2 hh4
            have hgcw := hkG.cell (p := ⟨g, 4, none⟩) hHR.out.2.2.2.2.2.2.2 hc4
            have hgfw := blk_frozen hgw 4
            have hroot := hHR.out.1.root hHR.out.2.1 hkG (lv := .slice va (j + 1) vcc) (c := (n : Int)) (by rw [hrl]; exact hfa1)
            have ks := kb_set w g 4 (.slice va (j + 1) vcc)
            have hap' : Apart (.slice va (j + 1) vcc) ls := fun u hu g1 hg1 e => by
              rcases hfa2 with e2 | h2
              · have e3 : (Value.slice va (j + 1) vcc).ownBlock = l0.ownBlock := by rw [e2, inPlace_block]
                exact hHR.out.2.1 u hu g1 hg1 (by rw [← e3]; exact e)
              · have h3 := (h2 g1 e).2
                obtain ⟨q, hq, rfl⟩ := List.getElem_of_mem hu
                have hlen := hHR.out.1.len
                have h4 := hHR.out.1.lists (q + 1) (by simp at hlen ⊢; omega)
                have e5 : (l0 :: ls).getD (q + 1) undef = ls[q] := by simp [List.getD_eq_getElem?_getD, hq]
                rw [e5] at h4
                obtain ⟨cu, h5, -⟩ := own_block h4 hg1
                have h6 := heap_lt h5
                omega
            have hO5 := ks.heap (b := O) (fun e => by subst e; have := hHR.out.2.2.1; rw [hh4] at this; cases this) (hkG.heap hHR.out.2.2.2.2.2.2.1 hHR.out.2.2.1)
            have hnL : ¬ l0.ownBlock = some L := fun e => by have := (hHR.out.2.2.2.2.2.1 L e).1; omega
            have hL5 := ks.heap (b := L) (fun e => by subst e; have := hHR.out.2.2.2.1; rw [hh4] at this; cases this) (hkG.heap hnL hHR.out.2.2.2.1)
            have hnB : ¬ l0.ownBlock = some (w0.heap.size + 1) := fun e => by
              obtain ⟨cu, h1, -⟩ := own_block hHR.out.2.2.2.2.1 e
              rw [hB4.out] at h1; cases h1
            have hB5 := ks.heap (b := w0.heap.size + 1) (fun e => by rw [← e] at hh4; rw [hB4.out] at hh4; cases hh4) (hkG.heap hnB hB4.out)
            have hkw : KB F0 w0 (w.setCell ⟨g, 4, none⟩ (.slice va (j + 1) vcc)) := (hK4.out.above hkG (fun k hk => (hHR.out.2.2.2.2.2.1 k hk).2)).setCell (p := ⟨g, 4, none⟩) (fun h => by
              have h1 : g < w0.heap.size := h; omega) _
            have hH5 := Lib.hid (And.intro hroot (And.intro hap' (And.intro hO5 (And.intro hL5 (And.intro hB5 hkw)))))
            have hLw : (w.setCell ⟨g, 4, none⟩ (.slice va (j + 1) vcc)).heap.size = w.heap.size := by simp [World.setCell]
            have hW5s := hkG.size
            clear hfa1 hfa2 hkG hc4 hf4 hh4 hgw hroot ks hap' hO5 hnL hL5 hnB hB5 hkw hG hH R1 R2 hOc hgc4
            go_wp2_with fail
            obtain ⟨W5, hW5⟩ : ∃ W5, W5 = w.setCell ⟨g, 4, none⟩ (.slice va (j + 1) vcc) := ⟨_, rfl⟩
            rw [← hW5] at hH5 hLw ⊢
            have R1 : ∀ w, GK W5 w → w.cell? ⟨O, 0, none⟩ = some (.slice (some ⟨g, 0, none⟩) n vc) := fun w hG => blk_cell (hG.heap (fun x => x) hH5.out.2.2.1) 0
            have R2 : ∀ w, GK W5 w → w.cell? ⟨L, 0, none⟩ = some (.slice ta M tc) := fun w hG => blk_cell (hG.heap (fun x => x) hH5.out.2.2.2.1) 0
            have hgood := (may_parts HC.out.1).1
            have hM0 : 0 < M := by rw [HM.out]; exact hgood.1
            have Hsh : Hid (∀ W, KB F0 w0 W → Calls Tryd.prog 28 #[.slice ta M tc, .int .i64 n] W fun e w' => ∃ v ls, e = .returned v ∧ OwnTs w' W.heap.size v (c.map (shN (n : Int))) ls ∧ KB F0 W w') := Lib.hid (fun W hW => by
              have h := shifted_any c (by have := HM.out; omega) HC.out.2.1 (fun y hy => by
                obtain ⟨q, hq, rfl⟩ := List.getElem_of_mem hy
                have h1 := good_len hgood hq
                have e : c.getD q nd0 = c[q] := by simp [List.getD_eq_getElem?_getD, hq]
                unfold kids at h1
                rw [e] at h1
                have := HM.out; omega) ta tc (n : Int) (fun y hy d hd => by
                obtain ⟨q, hq, rfl⟩ := List.getElem_of_mem hy
                have e : c.getD q nd0 = c[q] := by simp [List.getD_eq_getElem?_getD, hq]
                have h1 := good_down hgood q hq d (by rw [e]; exact hd)
                have := HM.out; omega) W (HC.out.2.2.kbF hW)
              rw [← HM.out] at h
              exact h)
            have HcM : Hid ((c.map (shN (n : Int))).length = M) := Lib.hid (by rw [List.length_map, HM.out])
            clear hW5 hgood
            refine wp_region_rv 6 GK (kindW [(5, fun v => ∃ a cc, v = .slice a M cc, fun v w => ∃ ls2, OwnTs w W5.heap.size v (c.map (shN (n : Int))) ls2)]) (by kernel_rfl) (by kernel_rfl) (kb_trans _) (kb_refl _) (kb_start _ _) (kindW_mono _ (by
              intro p hp; simp only [List.mem_cons, List.not_mem_nil, or_false] at hp
              subst hp
              rintro v a b hG ⟨ls2, h2⟩
              exact ⟨ls2, h2.kbF hG⟩)) ?_
            simp only [List.take_succ_cons, List.take_zero, List.drop_succ_cons, List.drop_zero]
            iterate 5 (refine rv_det (by kernel_rfl) rfl (by intro w hG hH; have hc0 := R1 w hG; have hc1 := R2 w hG; go_simp; first | done | with_reducible rfl) ?_; simp only [Act.put, List.setIfInBounds_toArray, List.set_cons_zero, List.set_cons_succ])
            refine rv_rel (by kernel_rfl) rfl ⟨.slice none M 0, _, _, rfl⟩ (by
              intro w6 hG hH
              refine opVal_call (by go_simp; first | done | exact ⟨⟨rfl, rfl⟩, rfl⟩) ?_
              refine (Hsh.out w6 (hH5.out.2.2.2.2.2.trans hG)).mono ?_
              rintro e w7 ⟨v, ls2, rfl, h2, h3⟩
              obtain ⟨a2, c2, rfl, -⟩ := h2.nodes
              exact ⟨_, rfl, ⟨a2, c2, by rw [HcM.out]⟩, h3, ls2, h2.base hG.size⟩) ?_
            rintro v ⟨va2, vc2, rfl⟩
            simp only [Act.put, List.setIfInBounds_toArray, List.set_cons_zero, List.set_cons_succ]
            refine rv_nil (fun w6 hG hH => ?_)
            obtain ⟨ls2, h62⟩ : ∃ ls2, OwnTs w6 W5.heap.size (.slice va2 M vc2) (c.map (shN (n : Int))) ls2 := hH (5, fun w => ∃ ls2, OwnTs w W5.heap.size (.slice va2 M vc2) (c.map (shN (n : Int))) ls2) List.mem_cons_self
            have h61 := hH5.out.1.kbF hG
            obtain ⟨g2, rfl⟩ : ∃ g2, va2 = some ⟨g2, 0, none⟩ := by
              obtain ⟨a3, c3, e, hn3, -, -, ha3⟩ := h62.nodes
              simp only [Value.slice.injEq] at e
              obtain ⟨rfl, -, -⟩ := e
              rcases ha3 with rfl | ⟨g2, rfl, -⟩
              · obtain ⟨b9, o9, e, -⟩ := hn3 0 (by rw [HcM.out]; exact hM0)
                cases e
              · exact ⟨g2, rfl⟩
            have h62b := h62.base (B' := w0.heap.size) hH5.out.2.2.2.2.2.size
            have hlen1 : (({ r with l := r.l ++ [(n : Int)] } :: rest : List Nd)).length = n := by rw [Hn.out]; rfl
            have hrow1 := h61.row
            rw [hlen1] at hrow1
            have HZ := Lib.hid (And.intro h61 (And.intro h62 (And.intro h62b (And.intro hrow1 hG))))
            have hOw := blk_cell (hG.heap (fun x => x) hH5.out.2.2.1) 0
            have hOh := hG.heap (fun x => x) hH5.out.2.2.1
            clear h61 h62 h62b hrow1 hH R1 R2
            go_wp2_with (at_builtin; refine Stopped.out ?_)
            refine ⟨?_⟩
            obtain ⟨i, hi, hz0, hz1, hz2⟩ := info_parts Tryd.infoNode
            have hl62 : (rowCells (c.map (shN (n : Int))) ls2).length = M * 5 := by rw [rowCells_len _ _ HZ.out.2.1.len, HcM.out]
            refine wpList_append_own _ rfl _ _ 29 rfl w0.heap.size 25 i _ 5 64 Tryd.underlying29 hi hz0 hz1 hz2 rfl (by decide) _ n _ rfl HZ.out.2.2.2.1 ⟨g2, 0, none⟩ M vc2 (rowCells (c.map (shN (n : Int))) ls2) rfl hl62
              (HZ.out.2.1.row.cells rfl) HZ.out.2.1.one (by unfold maxLen; omega) (by omega) (hH5.out.2.2.2.2.2.trans HZ.out.2.2.2.2).size ?_
            rintro v' w7 hown7 hgr7 -
            have hown8 := HZ.out.1.append HZ.out.2.2.1 (by rw [hlen1, HcM.out]; exact hown7) hgr7
            have hg7 := own_ge HZ.out.1.row (Nat.le_refl _) (S := F0)
            have hkb7 := (hH5.out.2.2.2.2.2.trans HZ.out.2.2.2.2).grown hgr7 (fun k e h => by
              obtain ⟨-, -, hb⟩ := own_block HZ.out.1.row e
              omega)
            have hO7 : w7.heap[O]? = some (.cells #[.slice (some ⟨g, 0, none⟩) n vc] 31 (0, 0)) := by
              rw [hgr7.block O (heap_lt hOh) (fun e => by
                obtain ⟨cu, h1, -⟩ := own_block HZ.out.1.row e.symm
                rw [hOh] at h1; cases h1)]
              exact hOh
            have hBh := HZ.out.2.2.2.2.heap (fun x => x) hH5.out.2.2.2.2.1
            have hB7 : w7.heap[w0.heap.size + 1]? = some (.cells #[.slice none 0 0] 31 (0, 0)) := by
              rw [hgr7.block (w0.heap.size + 1) (heap_lt hBh) (fun e => by
                obtain ⟨cu, h1, -⟩ := own_block HZ.out.1.row e.symm
                rw [hBh] at h1; cases h1)]
              exact hBh
            obtain ⟨a7, c7, rfl, -⟩ := own_shape hown7
            have k8 := kb_set w7 O 0 (.slice a7 (n + M) c7)
            have hown9 := hown8.other k8 hO7 (by decide) (by decide)
            have hO8 := setCell_blk (i := 0) hO7 (.slice a7 (n + M) c7)
            have hB8 := k8.heap (b := w0.heap.size + 1) (fun e => by omega) hB7
            have hkb8 := hkb7.setCell (p := ⟨O, 0, none⟩) (fun h => by
              have h1 : O < w0.heap.size := h; omega) (.slice a7 (n + M) c7)
            have hap8 : Apart (.slice va (j + 1) vcc) (ls ++ ls2) := fun u hu g1 hg1 e => by
              rcases List.mem_append.1 hu with hu | hu
              · exact hH5.out.2.1 u hu g1 hg1 e
              · obtain ⟨q, hq, rfl⟩ := List.getElem_of_mem hu
                have hlen := HZ.out.2.1.len
                have h4 := HZ.out.2.1.lists q (by omega)
                have e5 : ls2.getD q undef = ls2[q] := by simp [List.getD_eq_getElem?_getD, hq]
                rw [e5] at h4
                obtain ⟨cu, h5, h6⟩ := own_block h4 hg1
                obtain ⟨cu2, h7, -⟩ := own_block (hH5.out.1.lists 0 (by simp)) (g := g1) e
                have := heap_lt h7
                omega
            have c0O := blk_cell hO7 0
            have f0O := blk_frozen hO7 0
            have HY := Lib.hid (And.intro hown9 (And.intro hO8 (And.intro hB8 (And.intro hkb8 hap8))))
            clear hown8 hown9 hg7 hkb7 hO7 hBh hB7 k8 hO8 hB8 hkb8 hap8 hown7 hgr7 hi hz0 hz1 hz2 hOw hOh hG
            simp at c0O
            go_wp2
            go_roundw
            case rel => exact ⟨j + 1, _, _, _, _, _, by omega, by go_num, hjo2.out, by simp [hrl], HY.out.1, HY.out.2.2.2.2, HY.out.2.1, HY.out.2.2.1, HY.out.2.2.2.1⟩
            case measure => simp [intOf]; omega
          · obtain rfl : j = k := by omega
            have hjn : joinN x l = r :: rest := by rw [← hjo, List.take_of_length_le (by rw [← HN.out]; exact Nat.le_refl _)]; rfl
            have hjl := joinN_len x l
            have hnok := joinN_ok hx (by have := Hsle.out; omega) (List.all_eq_true.1 Hall.out) HTS.out.2.2.1
            have hE := hEc.out
            rw [hjn] at hnok hE hjl
            have hR : Hid (R = if E = 0 then r :: rest else []) := Lib.hid (by rw [HR.out.1, HR.out.2, joinT, hjn])
            obtain ⟨va, vc, rfl, hvn, hvc1, hvc2, hva⟩ := hown.nodes
            have Hck := Lib.hid (fun (W : World) (h : KB F0 w0 W) (hn : NodesAt W va (r :: rest)) => check_any (r :: rest) (by rw [hjl]; have := Hsle.out; omega) hnok va vc W hn (HTS.out.2.1.kb h))
            rw [← hE] at Hck
            have hOc : wr.cell? ⟨O, 0, none⟩ = some (.slice va (r :: rest).length vc) := blk_cell hO 0
            have HO := Lib.hid (And.intro hown (And.intro hvn (And.intro hO (And.intro hb1 hkb))))
            obtain ⟨n, hn⟩ : ∃ n, n = (r :: rest).length := ⟨_, rfl⟩
            rw [← hn] at hOc HO Hck
            have Hn := Lib.hid hn
            unfold maxLen at hvc2
            clear hown hvn hO hb1 hkb hjo hjn hjl hnok hE hn hva
            go_wp2_with fail
            refine (Hck.out _ HO.out.2.2.2.2 HO.out.2.1).mono ?_
            rintro e w2 ⟨⟨at_, rfl⟩, hk2⟩
            have hO2 := hk2.heap (fun x => x) HO.out.2.2.1
            have hOc2 : w2.cell? ⟨O, 0, none⟩ = some (.slice va n vc) := blk_cell hO2 0
            have hB2 := hk2.heap (fun x => x) HO.out.2.2.2.1
            have b1 : w2.cell? ⟨w0.heap.size + 1, 0, none⟩ = some (.slice none 0 0) := blk_cell hB2 0
            have hfz := blk_frozen hB2 0
            have Hkf := Lib.hid (fun v => (HO.out.2.2.2.2.trans hk2).setCell (p := ⟨w0.heap.size + 1, 0, none⟩) (fun h => by
              have h1 : w0.heap.size + 1 < w0.heap.size := h; omega) v)
            have Hc1 := Lib.hid (fun v => World.cell?_setCell_same w2 ⟨w0.heap.size + 1, 0, none⟩ v b1)
            have hown2 := Lib.hid (fun v => (HO.out.1.kbF hk2).other (kb_set w2 (w0.heap.size + 1) 0 v) hB2 (by decide) (by decide))
            clear hk2 hO2 hB2 Hck hOc
            by_cases hE0 : E = 0
            · rw [hE0]
              have hR2 : Hid (R = r :: rest) := Lib.hid (by rw [hR.out, if_pos hE0])
              have HE0 := Lib.hid hE0
              clear hE0
              go_wp2
              (try simp only [Exit.inBlock, Exit.then])
              refine ret_cell_tmp rfl rfl (Hc1.out _) rfl ?_
              exact ⟨_, _, by rw [HE0.out]; rfl, by rw [hR2.out]; exact hown2.out _, Hkf.out _⟩
            · have hR2 : Hid (R = []) := Lib.hid (by rw [hR.out, if_neg hE0])
              have d1 : ((E : Int) != 0) = true := by simpa using hE0
              have d2 : ((E : Int) == 0) = false := by simpa using hE0
              clear hE0
              go_wp2
              (try simp only [Exit.inBlock, Exit.then])
              refine ret_cell_tmp rfl rfl (Hc1.out _) rfl ?_
              exact ⟨_, [], rfl, by rw [hR2.out]; exact ownTs_nil _ _, Hkf.out _⟩
end Go.Proofs.YtjefoojkgocinaaDoor

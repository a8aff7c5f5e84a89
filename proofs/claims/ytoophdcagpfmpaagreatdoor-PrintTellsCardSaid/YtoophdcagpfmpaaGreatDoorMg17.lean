/- A drawn region within which one element is appended to a slice of the call's own (the element's block may be the old one). What a call leaves, put together. print: a page of lines: line, more. -/
import Derived.Test.YtoophdcagpfmpaaGreatDoorMg03
import Derived.Test.YtoophdcagpfmpaaGreatDoorPrG
namespace Go.Proofs.YtoophdcagpfmpaaGreatDoor
open Go.RowKit

def inPlace (v : Value) (n : Nat) : Value := match v with
  | .slice a _ c => .slice a n c
  | v => v
theorem inPlace_block (v : Value) (n : Nat) : (inPlace v n).ownBlock = v.ownBlock := by
  cases v with
  | slice a l c => cases a <;> rfl
  | _ => rfl
theorem own_at {w w' : World} {B : Nat} {e : TypeId} {size n : Nat} {v : Value} {xs : List Value} (h : w.ownsRow B e size v n xs) (hs : ∀ g, v.ownBlock = some g → w'.heap[g]? = w.heap[g]?) : w'.ownsRow B e size v n xs := by
  obtain ⟨h1, h2⟩ := h
  refine ⟨h1, ?_⟩
  rcases h2 with h2 | ⟨g, cap, cur, hv, hg, hh, r⟩
  · exact Or.inl h2
  · exact Or.inr ⟨g, cap, cur, hv, hg, by rw [hs g (by rw [hv]; rfl)]; exact hh, r⟩
theorem own_prefix {w : World} {B : Nat} {e : TypeId} {v : Value} {n m : Nat} {ys : List Value} (h : w.ownsRow B e 1 (inPlace v n) n ys) (hm : m ≤ n) (hv : ∃ g c, v = .slice (some ⟨g, 0, none⟩) m c) : w.ownsRow B e 1 v m (ys.take m) := by
  obtain ⟨g, c, rfl⟩ := hv
  obtain ⟨h1, h2⟩ := h
  rcases h2 with ⟨h2, -⟩ | ⟨g', cap, cur, hv, hg, hh, hcap, hmx, hsz, hx⟩
  · simp [inPlace] at h2
  · simp only [inPlace, Value.slice.injEq, Option.some.injEq, Addr.mk.injEq, and_true, true_and] at hv
    obtain ⟨rfl, rfl⟩ := hv
    refine ⟨by rw [List.length_take, h1]; omega, Or.inr ⟨g, c, cur, rfl, hg, hh, by omega, hmx, hsz, ?_⟩⟩
    rw [← hx, List.take_take]
    congr 1; omega
/-- What a region with one append does: only the slice's own block may change, once. -/
def GA (B : Nat) (e : TypeId) (v : Value) (n : Nat) (ys : List Value) (a b : World) : Prop :=
  KB (fun k => v.ownBlock = some k) a b ∧ ∀ g, v.ownBlock = some g → b.heap[g]? = a.heap[g]? ∨ b.ownsRow B e 1 (inPlace v n) n ys
section
variable {B : Nat} {e : TypeId} {v : Value} {n : Nat} {ys : List Value}
theorem GA.refl (a : World) : GA B e v n ys a a := ⟨KB.refl _ _, fun _ _ => .inl rfl⟩
theorem GA.trans (a b c : World) (h : GA B e v n ys a b) (k : GA B e v n ys b c) : GA B e v n ys a c := by
  refine ⟨h.1.trans k.1, fun g hg => ?_⟩
  rcases k.2 g hg with h2 | h2
  · rcases h.2 g hg with h1 | h1
    · exact .inl (h2.trans h1)
    · refine .inr (own_at h1 fun g' hg' => ?_)
      rw [inPlace_block, hg] at hg'
      obtain rfl := Option.some.inj hg'
      exact h2
  · exact .inr h2
theorem GA.start (a : World) : GA B e v n ys a a.drew := ⟨(KB.refl _ _).drew, fun _ _ => .inl rfl⟩
theorem GA.kb {F0' : Nat → Prop} {a b : World} (hk : KB F0' a b) (hF : ∀ k, ¬ F0' k) (hlt : ∀ g, v.ownBlock = some g → g < a.heap.size) : GA B e v n ys a b :=
  ⟨hk.mono (fun k _ h => (hF k h).elim), fun g hg => .inl (hk.block g (hlt g hg) (hF g))⟩
theorem GA.old {a b : World} {m : Nat} (h : GA B e v n ys a b) (ho : a.ownsRow B e 1 v m (ys.take m)) (hm : m ≤ n) : b.ownsRow B e 1 v m (ys.take m) := by
  obtain ⟨h1, h2⟩ := ho
  rcases h2 with ⟨rfl, h2⟩ | ⟨g, cap, cur, rfl, hb, hh, r⟩
  · exact ⟨h1, Or.inl ⟨rfl, h2⟩⟩
  · rcases h.2 g rfl with h3 | h3
    · exact ⟨h1, Or.inr ⟨g, cap, cur, rfl, hb, by rw [h3]; exact hh, r⟩⟩
    · exact own_prefix h3 hm ⟨g, cap, rfl⟩
/-- The fact that the append leaves. -/
def FA (B N0 : Nat) (e : TypeId) (v : Value) (n : Nat) (ys : List Value) (v' : Value) (w : World) : Prop :=
  w.ownsRow B e 1 v' n ys ∧ (v' = inPlace v n ∨ ∀ g, v'.ownBlock = some g → v.ownBlock ≠ some g ∧ N0 ≤ g)
theorem FA.lasts {N0 : Nat} {v' : Value} {a b : World} (h : GA B e v n ys a b) (f : FA B N0 e v n ys v' a) : FA B N0 e v n ys v' b := by
  obtain ⟨f1, f2⟩ := f
  refine ⟨?_, f2⟩
  rcases f2 with rfl | f2
  · cases hv : v.ownBlock with
    | none => exact own_at f1 (fun g hg => by rw [inPlace_block, hv] at hg; cases hg)
    | some g =>
      rcases h.2 g hv with h1 | h1
      · refine own_at f1 (fun g' hg' => ?_)
        rw [inPlace_block, hv] at hg'
        obtain rfl := Option.some.inj hg'
        exact h1
      · exact h1
  · exact own_kb f1 h.1 (fun g hg hS => (f2 g hg).1 hS)
end
theorem kindW_monoG {G : World → World → Prop} (l : List (Nat × (Value → Prop) × (Value → World → Prop))) (hl : ∀ p ∈ l, ∀ v a b, G a b → p.2.2 v a → p.2.2 v b) : ∀ i Fp Fw, kindW l i = .rel Fp Fw → ∀ xs v a b, G a b → Fw xs v a → Fw xs v b := by
  intro i Fp Fw h xs v a b hG hf
  unfold kindW at h
  split at h
  · rename_i p hp
    cases h
    exact hl p (List.mem_of_find?_eq_some hp) v a b hG hf
  · cases h
/-- The append itself. -/
theorem run_append_two {P : Program} (w : World) (base N0 : Nat) (hN0 : N0 ≤ w.heap.size) (t ty e : TypeId) {z : Value} {bytes : Nat} (hinfo : (P.info? e).map (fun i => (i.zero, i.size, i.bytes)) = some (some z, 1, bytes)) (ht : P.underlying t = some (.slice e)) (hzs : z.cells.size = 1)
    (v : Value) (n : Nat) (xs : List Value) (hown : w.ownsRow base e 1 v n xs) (a : Addr) (c : Nat) (u : Value) (hu : ∀ j x, [u][j]? = some x → w.cell? (a.add j) = some x) (h1 : u.oneCell' = true)
    (h63 : n + 1 ≤ maxLen) (hbytes : (n + 1) * bytes ≤ 140737488355328) (hbase : base ≤ w.heap.size) :
    ∃ v' w', (Builtin.append_ #[t, t] ty #[v, .slice (some a) 1 c]).run P w = .ok v' w' ∧ FA base N0 e v (n + 1) (xs ++ [u]) v' w' ∧ GA base e v (n + 1) (xs ++ [u]) w w' := by
  obtain ⟨i, hi, hz, hsize, hby⟩ := info_parts hinfo
  by_cases hroom : ∃ g cap, v = .slice (some ⟨g, 0, none⟩) n cap ∧ n + 1 ≤ cap
  · obtain ⟨g, cap, rfl, hcap⟩ := hroom
    obtain ⟨w', hr, h2, h3⟩ := run_append_fits (P := P) w base t ty e i 1 ht hi hsize g n cap xs hown a 1 c [u] rfl hu (by intro x hx; simp at hx; subst hx; exact h1) hcap
    refine ⟨_, w', hr, ⟨h2, .inl rfl⟩, ⟨⟨h3.os, h3.tape, h3.output, h3.size, fun k hk hn => h3.block k hk (fun e => hn (by rw [e]; rfl))⟩, fun g' hg' => .inr h2⟩⟩
  · -- a new block
    have hlen := hown.1
    have mk : ∀ (old : Nat), old < n + 1 →
        (w.drew.alloc (.cells (xs.toArray ++ [u].toArray ++ Builtin.zeroCells z.cells (grownCap w (n + 1) old e - (n + 1))) e)).ownsRow base e 1
          (.slice (some ⟨w.heap.size, 0, none⟩) (n + 1) (grownCap w (n + 1) old e)) (n + 1) (xs ++ [u]) ∧
        KB (fun _ => False) w (w.drew.alloc (.cells (xs.toArray ++ [u].toArray ++ Builtin.zeroCells z.cells (grownCap w (n + 1) old e - (n + 1))) e)) := by
      intro old ho
      have hge := grownCap_ge w (n + 1) old e
      have hcm : grownCap w (n + 1) old e ≤ maxLen := grownCap_le_maxLen w (n + 1) old e h63
      refine ⟨⟨by rw [List.length_append, hlen]; simp, .inr ⟨w.heap.size, _, _, rfl, hbase, heap_alloc_new w.drew _, hge, hcm, ?_, ?_⟩⟩, (KB.refl _ _).drew.alloc _⟩
      · simp only [Array.size_append, List.size_toArray, size_zeroCells, hzs, hlen, List.length_singleton]
        omega
      · simp only [Array.toList_append, List.append_assoc]
        rw [← List.append_assoc, show (n + 1) * 1 = (xs ++ [u]).length by rw [List.length_append, hlen]; simp]
        exact List.take_left
    have hlt : ∀ g, v.ownBlock = some g → g < w.heap.size := fun g hg => by
      rcases hown.2 with ⟨rfl, -⟩ | ⟨g', cap, cur, rfl, -, hh, -⟩
      · cases hg
      · simp [Value.ownBlock] at hg; subst hg; exact heap_lt hh
    have fin : ∀ {w' : World} {cap' : Nat}, w'.ownsRow base e 1 (.slice (some ⟨w.heap.size, 0, none⟩) (n + 1) cap') (n + 1) (xs ++ [u]) → KB (fun _ => False) w w' →
        FA base N0 e v (n + 1) (xs ++ [u]) (.slice (some ⟨w.heap.size, 0, none⟩) (n + 1) cap') w' ∧ GA base e v (n + 1) (xs ++ [u]) w w' := fun h2 hk =>
      ⟨⟨h2, .inr (fun g hg => by
        simp [Value.ownBlock] at hg
        exact ⟨fun hv => by have := hlt g hv; omega, by omega⟩)⟩, hk.mono (fun _ _ h => h.elim), fun g hg => .inl (hk.block g (hlt g hg) (fun x => x))⟩
    rcases hown.2 with ⟨rfl, rfl⟩ | ⟨g, cap, cur, rfl, hbg, hg, hnc, hcm, hcs, htake⟩
    · have hx : xs = [] := List.eq_nil_of_length_eq_zero (by simpa using hlen)
      subst hx
      have hr := run_append_nil (P := P) w t ty e i z ht hi hz a 1 c [u] (by simp [hsize]) hu (by omega) (by omega) (by rw [hby]; simp only [Nat.zero_add, Nat.one_mul] at hbytes; omega)
      obtain ⟨m1, m2⟩ := mk 0 (by omega)
      simp only [Nat.zero_add, List.nil_append, Array.empty_append] at m1 m2 fin ⊢
      exact ⟨_, _, hr, fin m1 m2⟩
    · have hcap : cap < n + 1 := by
        apply Classical.byContradiction
        intro h
        exact hroom ⟨g, cap, rfl, by omega⟩
      have hr := run_append_grow (P := P) w t ty e i z ht hi hz ⟨g, 0, none⟩ n cap xs (by rw [hsize]; exact hlen) (hown.cells (g := g) rfl) a 1 c [u] (by simp [hsize]) hu (by omega) (by unfold maxLen at h63; omega)
        (growslice_fits (by omega) (by rw [hby]; exact hbytes))
      obtain ⟨m1, m2⟩ := mk cap hcap
      exact ⟨_, _, hr, fin m1 m2⟩
theorem opVal_append {P : Program} {o : Oper} {act : Act} {w : World} (base N0 : Nat) (hN0 : N0 ≤ w.heap.size) (s x : Operand) (t e : TypeId) {z : Value} {bytes : Nat} (ho : o.op = .call { callee := .builtin .append, args := #[s, x], argTypes := #[t, t] })
    (hinfo : (P.info? e).map (fun i => (i.zero, i.size, i.bytes)) = some (some z, 1, bytes)) (ht : P.underlying t = some (.slice e)) (hzs : z.cells.size = 1)
    (v : Value) (n : Nat) (xs : List Value) (hs : act.eval s = v) (hown : w.ownsRow base e 1 v n xs) (nb c : Nat) (u : Value) (te : TypeId) (hx : act.eval x = .slice (some ⟨nb, 0, none⟩) 1 c) (hu : w.heap[nb]? = some (.cells #[u] te (0, 0))) (h1 : u.oneCell' = true)
    (h63 : n + 1 ≤ maxLen) (hbytes : (n + 1) * bytes ≤ 140737488355328) (hbase : base ≤ w.heap.size) :
    OpVal P o act w (fun v' w' => FA base N0 e v (n + 1) (xs ++ [u]) v' w' ∧ GA base e v (n + 1) (xs ++ [u]) w w') := by
  obtain ⟨v', w', hr, h2, h3⟩ := run_append_two (P := P) w base N0 hN0 t o.type e hinfo ht hzs v n xs hown ⟨nb, 0, none⟩ c u (cells_of_block (us := [u]) hu) h1 h63 hbytes hbase
  refine opVal_value (v := v') (w' := w') ?_ ⟨h2, h3⟩
  unfold execOp
  simp only [ho, resolve, invoke, builtin, Sem.run_bind, Sem.run_pure, Result.andThen_ok, List.map_toArray, List.map_cons, List.map_nil, hs, hx, hr]
end Go.Proofs.YtoophdcagpfmpaaGreatDoor

namespace Go.Proofs.YtoophdcagpfmpaaGreatDoor
open Go.RowKit

theorem opVal_imp {P : Program} {o : Oper} {a : Act} {w : World} {ψ φ : Value → World → Prop} (h : OpVal P o a w ψ) (hi : ∀ v w', ψ v w' → φ v w') : OpVal P o a w φ := by
  unfold OpVal at h ⊢
  split at h
  · exact hi _ _ h
  · exact h.mono fun e w' ⟨v, h1, h2⟩ => ⟨v, h1, hi _ _ h2⟩
  · exact h
theorem KB.above {S : Nat → Prop} {a b c : World} (h : KB F0 a b) (k : KB S b c) (hS : ∀ i, S i → a.heap.size ≤ i) : KB F0 a c :=
  ⟨k.os.trans h.os, k.tape.trans h.tape, k.output.trans h.output, Nat.le_trans h.size k.size, fun i hi _ =>
    (k.block i (Nat.lt_of_lt_of_le hi h.size) (fun hs => by have := hS i hs; omega)).trans (h.block i hi (fun x => x))⟩
theorem own_set {w : World} {B : Nat} {e : TypeId} {v : Value} {n : Nat} {xs : List Value} (h : w.ownsRow B e 1 v n xs) {i : Nat} (hi : i < n) :
    ∃ g cap, v = .slice (some ⟨g, 0, none⟩) n cap ∧ B ≤ g ∧ w.cell? ⟨g, i, none⟩ = xs[i]? ∧ w.frozen? ⟨g, i, none⟩ = false ∧
      ∀ u, (w.setCell ⟨g, i, none⟩ u).ownsRow B e 1 (.slice (some ⟨g, 0, none⟩) n cap) n (xs.set i u) := by
  obtain ⟨h1, h2⟩ := h
  rcases h2 with ⟨-, h2⟩ | ⟨g, cap, cur, hv, hg, hh, hcap, hm, hsz, hx⟩
  · omega
  · refine ⟨g, cap, hv, hg, ?_, ?_, fun u => ⟨by rw [List.length_set]; exact h1, Or.inr ⟨g, cap, cur.setIfInBounds i u, rfl, hg, ?_, hcap, hm, by rw [Array.size_setIfInBounds]; exact hsz, ?_⟩⟩⟩
    · simp only [World.cell?, hh]
      rw [← hx]
      simp [hi]
    · simp [World.frozen?, hh]
    · simp [World.setCell, Array.getElem?_modify, hh]
    · rw [Array.toList_setIfInBounds, List.take_set, hx]
end Go.Proofs.YtoophdcagpfmpaaGreatDoor

namespace Go.Proofs.YtoophdcagpfmpaaGreatDoor
open Go.RowKit

theorem rep_blB (n : Nat) : (⟨(Lib.repeatL (⟨#[32, 32, 32, 32]⟩ : ByteArray).data.toList n).toArray⟩ : ByteArray) = blB n := by
  induction n with
  | zero => rfl
  | succ n ih =>
    rw [Lib.repeatL_add, Lib.repeatL_one]
    show _ = blB n ++ _
    rw [← ih]
    apply ByteArray.ext
    rw [ByteArray.data_append]
    simp
theorem blB_size (n : Nat) : (blB n).size = 4 * n := by
  induction n with
  | zero => rfl
  | succ n ih =>
    show (blB n ++ _).size = _
    rw [ByteArray.size_append, ih]
    show 4 * n + 4 = _
    omega
theorem rep_any (n : Nat) (hn : n ≤ 20000) (w : World) : TxtCall 53 #[.string ⟨#[32, 32, 32, 32]⟩, .int .i64 n] w (blB n) := by
  have h := Tryz.strings_Repeat ⟨#[32, 32, 32, 32]⟩ n w (by omega) (by show 4 * n ≤ _; omega)
  rw [rep_blB] at h
  exact h.mono fun e w' ⟨h1, h2⟩ => ⟨h1, KB.of_below h2⟩
/-- At X a page: its nodes, its lines (an own slice v), how far in it is. -/
structure Pg (w : World) (X : Nat) (sv v : Value) (out : List ByteArray) (inn : Int) : Prop where
  blk : w.heap[X]? = some (.cells #[sv, v, .int .i64 inn] 96 (0, 0))
  own : w.ownsRow (X + 1) 9 1 v out.length (out.map Value.string)
abbrev SV (X : Nat) (v : Value) : Nat → Prop := fun k => k = X ∨ v.ownBlock = some k
structure PgTo (w w' : World) (X : Nat) (v v' : Value) : Prop where
  kb : KB (SV X v) w w'
  fresh : ∀ g, v'.ownBlock = some g → v.ownBlock = some g ∨ w.heap.size ≤ g
theorem PgTo.of {w w' : World} {X : Nat} {v : Value} (h : KB F0 w w') : PgTo w w' X v v := ⟨h.mono (fun _ _ x => x.elim), fun _ e => Or.inl e⟩
theorem PgTo.trans {a b c : World} {X : Nat} {v v1 v2 : Value} (h : PgTo a b X v v1) (k : PgTo b c X v1 v2) : PgTo a c X v v2 :=
  ⟨⟨k.kb.os.trans h.kb.os, k.kb.tape.trans h.kb.tape, k.kb.output.trans h.kb.output, Nat.le_trans h.kb.size k.kb.size, fun i hi hn =>
    (k.kb.block i (Nat.lt_of_lt_of_le hi h.kb.size) (fun e => hn (by
      rcases e with e | e
      · exact Or.inl e
      · rcases h.fresh i e with e2 | e2
        · exact Or.inr e2
        · omega))).trans (h.kb.block i hi hn)⟩,
   fun g e => by
     rcases k.fresh g e with e1 | e1
     · exact h.fresh g e1
     · have := h.kb.size; exact Or.inr (by omega)⟩
theorem Pg.kb {w w' : World} {X : Nat} {sv v : Value} {out : List ByteArray} {inn : Int} (h : Pg w X sv v out inn) (hk : KB F0 w w') : Pg w' X sv v out inn :=
  ⟨hk.heap (fun x => x) h.blk, own_kb h.own hk (fun _ _ x => x)⟩
theorem Pg.ne {w : World} {X : Nat} {sv v : Value} {out : List ByteArray} {inn : Int} (h : Pg w X sv v out inn) : ∀ g, v.ownBlock = some g → X < g ∧ g < w.heap.size := fun g e => by
  have := h.own.lt g e
  omega
/-- What lay below the page is as it was. -/
theorem PgTo.low {w w' : World} {X : Nat} {sv v v' : Value} {out : List ByteArray} {inn : Int} (h : PgTo w w' X v v') (hp : Pg w X sv v out inn) {b : Nat} (hb : b < X) {o : Obj} (ho : w.heap[b]? = some o) : w'.heap[b]? = some o :=
  h.kb.heap (fun e => by
    rcases e with e | e
    · omega
    · have := (hp.ne b e).1; omega) ho
/-- A block that is neither the page nor its lines. -/
theorem PgTo.far {w w' : World} {X : Nat} {v v' : Value} (h : PgTo w w' X v v') {b : Nat} (hb : b ≠ X) (hv : v.ownBlock ≠ some b) {o : Obj} (ho : w.heap[b]? = some o) : w'.heap[b]? = some o :=
  h.kb.heap (fun e => by
    rcases e with e | e
    · exact hb e
    · exact hv e) ho
/-- Behind a method of the page. -/
def PgEnd (w : World) (X : Nat) (sv v : Value) (out : List ByteArray) (inn : Int) (e : Ending) (w' : World) : Prop :=
  e = .returned (.tuple #[]) ∧ ∃ v', Pg w' X sv v' out inn ∧ PgTo w w' X v v'
theorem ga_pg {w w1 w' : World} {X : Nat} {v : Value} {n : Nat} {ys : List Value} (h : GA (X + 1) 9 v n ys w w') : KB (SV X v) w w' := h.1.mono (fun _ _ e => Or.inr e)
set_option maxRecDepth 100000 in
set_option maxHeartbeats 8000000 in
theorem line_any (X : Nat) (sv v : Value) (out : List ByteArray) (inn : Nat) (s : ByteArray) (w : World) (hp : Pg w X sv v out inn) (hi : inn ≤ 20000) (hs : s.size ≤ 10000000000) (hl : out.length ≤ 10000000000) :
    Calls Tryz.prog 95 #[.pointer (some ⟨X, 0, none⟩), .string s] w (PgEnd w X sv v (out ++ [blB inn ++ s]) inn) := by
  obtain ⟨w0, rfl⟩ : ∃ w0, w0 = w := ⟨_, rfl⟩
  obtain ⟨T, hT⟩ : ∃ T, blB inn ++ s = T := ⟨_, rfl⟩
  rw [hT]
  obtain ⟨va, vc, rfl, -, -, -, -⟩ := own_shape hp.own
  obtain ⟨n, hn⟩ : ∃ n, n = out.length := ⟨_, rfl⟩
  have hlt := heap_lt hp.blk
  have hown : w0.ownsRow (X + 1) 9 1 (.slice va n vc) n (out.map Value.string) := by rw [hn]; exact hp.own
  have hbk : w0.heap[X]? = some (.cells #[sv, .slice va n vc, .int .i64 inn] 96 (0, 0)) := by rw [hn]; exact hp.blk
  rw [← hn] at hl
  have hxs : (out.map Value.string).length = n := by rw [List.length_map, hn]
  have hys : out.map Value.string ++ [.string T] = (out ++ [T]).map Value.string := by rw [List.map_append]; rfl
  have hbs := blB_size inn
  have RP := Lib.hid (fun (W : World) => rep_any inn hi W)
  generalize blB inn = B at hT hbs RP
  have z1 : ¬ (9223372036854775807 < B.size + s.size) := by omega
  have hpX : ∀ g, (Value.slice va n vc).ownBlock = some g → X < g ∧ g < w0.heap.size := fun g e => by
    have := hown.lt g e
    omega
  have hnX : ¬ (Value.slice va n vc).ownBlock = some X := fun e => by have := (hpX X e).1; omega
  have R1 : ∀ w, GA (X + 1) 9 (.slice va n vc) (n + 1) (out.map Value.string ++ [.string T]) w0 w → w.cell? ⟨X, 1, none⟩ = some (.slice va n vc) := fun w hG => blk_cell (hG.1.heap hnX hbk) 1
  have R2 : ∀ w, GA (X + 1) 9 (.slice va n vc) (n + 1) (out.map Value.string ++ [.string T]) w0 w → w.cell? ⟨X, 2, none⟩ = some (.int .i64 inn) := fun w hG => blk_cell (hG.1.heap hnX hbk) 2
  have HR := Lib.hid (And.intro hown (And.intro hbk (And.intro hpX hnX)))
  have HZ := Lib.hid (And.intro hxs (And.intro hys (And.intro hl hlt)))
  have HN := Lib.hid hn
  unfold TxtCall at RP
  rw [← hn]
  clear hp hown hbk hpX hnX hxs hys hl hlt hn hbs hs hi
  generalize out.map Value.string = xs at R1 R2 HR HZ
  go_enter Tryz.func95, Tryz.ntmps95
  go_wp2_with fail
  refine wp_region_rv 14 (GA (X + 1) 9 (.slice va n vc) (n + 1) (xs ++ [.string T])) (kindW [(9, fun v => v = .string B, fun _ _ => True), (12, fun v => OneRow w0.heap.size #[.string T] 9 v, OneRowAt w0.heap.size #[.string T] 9), (13, fun v => ∃ a c, v = .slice a (n + 1) c, FA (X + 1) w0.heap.size 9 (.slice va n vc) (n + 1) (xs ++ [.string T]))])
    (by kernel_rfl) (by kernel_rfl) GA.trans GA.refl (GA.start _) (kindW_monoG _ (by
      intro p hp; simp only [List.mem_cons, List.not_mem_nil, or_false] at hp
      rcases hp with rfl | rfl | rfl
      · exact fun _ _ _ _ _ => trivial
      · rintro v a b hG ⟨nb, h1, h2, h3⟩
        exact ⟨nb, h1, h2, hG.1.heap (fun e => by have := (HR.out.2.2.1 nb e).2; omega) h3⟩
      · intro v a b hG hf
        exact hf.lasts hG)) ?_
  simp only [List.take_succ_cons, List.take_zero, List.drop_succ_cons, List.drop_zero]
  iterate 9 (refine rv_det (by kernel_rfl) rfl (by intro w hG hH; have hc0 := R1 w hG; have hc1 := R2 w hG; go_simp; first | done | with_reducible rfl) ?_; simp only [Act.put, List.setIfInBounds_toArray, List.set_cons_zero, List.set_cons_succ])
  refine rv_rel (by kernel_rfl) rfl ⟨_, rfl⟩ (by
    intro w hG hH
    refine opVal_call (by go_simp; first | done | exact ⟨⟨rfl, rfl⟩, rfl⟩) ?_
    refine (RP.out w).mono ?_
    rintro e w' ⟨rfl, hq⟩
    exact ⟨_, rfl, rfl, GA.kb hq (fun _ x => x) (fun g e => by have := (HR.out.2.2.1 g e).2; have := hG.1.size; omega), trivial⟩) ?_
  rintro v rfl
  simp only [Act.put, List.setIfInBounds_toArray, List.set_cons_zero, List.set_cons_succ]
  iterate 2 (refine rv_det (by kernel_rfl) rfl (by intro w hG hH; go_simp; first | done | with_reducible rfl) ?_; simp only [Act.put, List.setIfInBounds_toArray, List.set_cons_zero, List.set_cons_succ])
  refine rv_rel (by kernel_rfl) rfl ⟨.slice (some ⟨_, 0, none⟩) 1 1, _, rfl, Nat.le_refl _⟩ (fun w hG hH => opVal_value (v := .slice (some ⟨w.heap.size, 0, none⟩) 1 1) (w' := w.alloc (.cells #[.string T] 9)) (by go_simp; first | done | rfl)
    ⟨⟨_, rfl, hG.1.size⟩, GA.kb ((KB.refl (fun _ => False) w).alloc _) (fun _ x => x) (fun g e => by have := (HR.out.2.2.1 g e).2; have := hG.1.size; omega), ⟨_, rfl, hG.1.size, alloc_new w _⟩⟩) ?_
  rintro v ⟨nb, rfl, hnb4⟩
  simp only [Act.put, List.setIfInBounds_toArray, List.set_cons_zero, List.set_cons_succ]
  refine rv_rel (by kernel_rfl) rfl ⟨.slice none (n + 1) 0, _, _, rfl⟩ (fun w hG hH => by
    obtain ⟨nb', e, -, hrow⟩ := hH (12, fun w => OneRowAt w0.heap.size #[.string T] 9 (.slice (some ⟨nb, 0, none⟩) 1 1) w) List.mem_cons_self (by kernel_rfl)
    simp only [Value.slice.injEq, Option.some.injEq, Addr.mk.injEq, and_true] at e
    subst e
    have htk : (xs ++ [Value.string T]).take n = xs := by rw [← HZ.out.1]; exact List.take_left
    have hold : w.ownsRow (X + 1) 9 1 (.slice va n vc) n xs := by
      have := GA.old (m := n) hG (by rw [htk]; exact HR.out.1) (by omega)
      rwa [htk] at this
    have hsw := hG.1.size
    refine opVal_imp (opVal_append (P := Tryz.prog) (X + 1) w0.heap.size hsw (.tmp 8) (.tmp 16) 33 9 rfl Tryz.infoStr5 Tryz.underlying33 rfl (.slice va n vc) n xs (by go_simp; first | done | rfl) hold nb 1 (.string T) 9 (by go_simp; first | done | rfl) hrow rfl (by have := HZ.out.2.2.1; unfold maxLen; omega) (by have := HZ.out.2.2.1; omega) (by have := HZ.out.2.2.2; omega)) ?_
    rintro v w' ⟨h1, h2⟩
    obtain ⟨a1, c1, e, -⟩ := own_shape h1.1
    exact ⟨⟨a1, c1, e⟩, h2, h1⟩) ?_
  rintro v ⟨vb, vd, rfl⟩
  simp only [Act.put, List.setIfInBounds_toArray, List.set_cons_zero, List.set_cons_succ]
  refine rv_nil (fun w hG hH => ?_)
  obtain ⟨hf1, hf2⟩ : FA (X + 1) w0.heap.size 9 (.slice va n vc) (n + 1) (xs ++ [.string T]) (.slice vb (n + 1) vd) w := hH (13, fun w => FA (X + 1) w0.heap.size 9 (.slice va n vc) (n + 1) (xs ++ [.string T]) (.slice vb (n + 1) vd) w) List.mem_cons_self
  have hbw := hG.1.heap HR.out.2.2.2 HR.out.2.1
  have f1 := blk_frozen hbw 1
  have x1 := blk_cell hbw 1
  have HF := Lib.hid (And.intro hf1 (And.intro hf2 (And.intro hbw hG.1)))
  clear hf1 hf2 hbw hG hH R1 R2
  go_wp2_with fail
  go_end0
  have k1 := HF.out.2.2.2
  have hge : ∀ g, (Value.slice vb (n + 1) vd).ownBlock = some g → (Value.slice va n vc).ownBlock = some g ∨ w0.heap.size ≤ g := fun g e => by
    rcases HF.out.2.1 with h1 | h1
    · left
      have : (Value.slice vb (n + 1) vd).ownBlock = (Value.slice va n vc).ownBlock := by rw [h1, inPlace_block]
      rw [← this]; exact e
    · exact Or.inr (h1 g e).2
  have hgX : ∀ g, (Value.slice vb (n + 1) vd).ownBlock = some g → g ≠ X := fun g e => by have := (HF.out.1.lt g e).1; omega
  refine ⟨rfl, .slice vb (n + 1) vd, ⟨?_, ?_⟩, ⟨?_, hge⟩⟩
  · exact setCell_blk (i := 1) HF.out.2.2.1 _
  · rw [List.length_append, ← HN.out, ← HZ.out.2.1]
    exact own_kb HF.out.1 (kb_set w X 1 _) hgX
  · exact KB.setCell (S := SV X (.slice va n vc)) (k1.mono (fun _ _ e => Or.inr e)) (p := ⟨X, 1, none⟩) (fun _ => Or.inl rfl) _
set_option maxRecDepth 100000 in
set_option maxHeartbeats 8000000 in
theorem more_any (X : Nat) (sv v : Value) (out : List ByteArray) (P : ByteArray) (inn : Int) (s : ByteArray) (w : World) (hp : Pg w X sv v (out ++ [P]) inn) (hs : P.size + s.size ≤ 100000000000) (hl : out.length ≤ 10000000000) :
    Calls Tryz.prog 141 #[.pointer (some ⟨X, 0, none⟩), .string s] w (PgEnd w X sv v (out ++ [P ++ s]) inn) := by
  obtain ⟨w0, rfl⟩ : ∃ w0, w0 = w := ⟨_, rfl⟩
  obtain ⟨T, hT⟩ : ∃ T, P ++ s = T := ⟨_, rfl⟩
  rw [hT]
  obtain ⟨va, vc, rfl, h1, h2, h3, -⟩ := own_shape hp.own
  obtain ⟨n, hn⟩ : ∃ n, n = out.length := ⟨_, rfl⟩
  have hlt := heap_lt hp.blk
  have hn1 : (out ++ [P]).length = n + 1 := by rw [List.length_append, hn]; rfl
  rw [← hn] at hl
  rw [hn1] at h1 h3 hp
  obtain ⟨g, rfl, hg, hc⟩ := h3 n (by omega)
  have hc : w0.cell? ⟨g, n, none⟩ = some (.string P) := by
    rw [hc, List.map_append, List.getElem?_append_right (by rw [List.length_map, hn]; exact Nat.le_refl _)]
    rw [List.length_map, hn, Nat.sub_self]; rfl
  have hown : w0.ownsRow (X + 1) 9 1 (.slice (some ⟨g, 0, none⟩) (n + 1) vc) (n + 1) ((out ++ [P]).map Value.string) := by
    have := hp.own
    rw [hn1] at this; exact this
  have hbk := hp.blk
  obtain ⟨cur, hgb, -⟩ := own_block hown (g := g) rfl
  have hgf := blk_frozen hgb n
  have x1 : w0.cell? ⟨X, 1, none⟩ = some (.slice (some ⟨g, 0, none⟩) (n + 1) vc) := blk_cell hbk 1
  have z1 : ¬ (9223372036854775807 < P.size + s.size) := by omega
  have hw1 : IntKind.i64.wrap ((n : Int) + 1 - 1) = (n : Int) := by rw [w64 (by omega) (by omega)]; omega
  have hw2 : IntKind.i64.wrap (n : Int) = (n : Int) := w64 (by omega) (by omega)
  have hin : (n : Int) < (n : Int) + 1 := by omega
  have HP := Lib.hid (And.intro hown (And.intro hbk (And.intro hgb hg)))
  have HN := Lib.hid hn
  clear hp hown hbk hgb hs hl hlt hn1 h1 h2 h3 hn hg hgf
  go_enter Tryz.func141, Tryz.ntmps141
  go_wp2_with fail
  refine wp_region_rv 15 GK (kindW []) (by kernel_rfl) (by kernel_rfl) (kb_trans _) (kb_refl _) (kb_start _ _) (kindW_mono _ (by intro p hp; cases hp)) ?_
  simp only [List.take_succ_cons, List.take_zero, List.drop_succ_cons, List.drop_zero]
  iterate 15 (refine rv_det (by kernel_rfl) rfl (by intro w hG hH; have hc0 := KB.cell hG (fun x => x) (x1); have hc1 := KB.cell hG (fun x => x) (hc); go_simp; first | done | with_reducible rfl) ?_; simp only [Act.put, List.setIfInBounds_toArray, List.set_cons_zero, List.set_cons_succ])
  refine rv_nil (fun w hG hH => ?_)
  have hb2 := hG.heap (fun x => x) HP.out.2.1
  have hg2 := hG.heap (fun x => x) HP.out.2.2.1
  have ho2 := own_kb HP.out.1 hG (fun _ _ x => x)
  have y1 := blk_cell hb2 1
  have f1 := blk_frozen hg2 n
  have hcw := hG.cell (p := ⟨g, n, none⟩) (fun x => x) hc
  have H2 := Lib.hid (And.intro hb2 (And.intro hg2 (And.intro ho2 hG)))
  clear hb2 hg2 ho2 hG hH x1 hc
  go_wp2_with fail
  go_end0
  have hne : g ≠ X := by have := HP.out.2.2.2; omega
  have ks := kb_set w g n (.string T)
  refine ⟨rfl, _, ⟨ks.heap (fun e => hne e.symm) H2.out.1, ?_⟩, ⟨?_, fun g2 e => Or.inl e⟩⟩
  · obtain ⟨g2, cap2, e2, -, -, -, hset⟩ := own_set H2.out.2.2.1 (i := n) (Nat.lt_succ_self n)
    cases e2
    have h6 := hset (.string T)
    have h7 : ((out ++ [P]).map Value.string).set n (.string T) = (out ++ [T]).map Value.string := by
      rw [List.map_append, List.map_append, HN.out]
      rw [List.set_append_right _ _ (by rw [List.length_map]; exact Nat.le_refl _), List.length_map, Nat.sub_self]
      rfl
    rw [h7] at h6
    rw [show (out ++ [T]).length = n + 1 by rw [List.length_append, HN.out]; rfl]
    exact h6
  · exact KB.setCell (S := SV X (.slice (some ⟨g, 0, none⟩) (n + 1) vc)) (H2.out.2.2.2.mono (fun _ _ x => x.elim)) (p := ⟨g, n, none⟩) (fun _ => Or.inr rfl) _
end Go.Proofs.YtoophdcagpfmpaaGreatDoor

/- A drawn region within which one element of two cells is appended to a slice of the call's own (the element's block may be the old one). -/
import Derived.Test.YtaeppaaolkcbbaaGreatDoorMg02
namespace Go.Proofs.YtaeppaaolkcbbaaGreatDoor.A2
open Go.RowKit

def inPlace (v : Value) (n : Nat) : Value := match v with
  | .slice a _ c => .slice a n c
  | v => v
theorem inPlace_block (v : Value) (n : Nat) : (inPlace v n).ownBlock = v.ownBlock := by
  cases v with
  | slice a l c => cases a <;> rfl
  | _ => rfl
theorem own_at2 {w w' : World} {B : Nat} {e : TypeId} {size n : Nat} {v : Value} {xs : List Value} (h : w.ownsRow B e size v n xs) (hs : ∀ g, v.ownBlock = some g → w'.heap[g]? = w.heap[g]?) : w'.ownsRow B e size v n xs := by
  obtain ⟨h1, h2⟩ := h
  refine ⟨h1, ?_⟩
  rcases h2 with h2 | ⟨g, cap, cur, hv, hg, hh, r⟩
  · exact Or.inl h2
  · exact Or.inr ⟨g, cap, cur, hv, hg, by rw [hs g (by rw [hv]; rfl)]; exact hh, r⟩
theorem own_prefix {w : World} {B : Nat} {e : TypeId} {v : Value} {n m : Nat} {ys : List Value} (h : w.ownsRow B e 2 (inPlace v n) n ys) (hm : m ≤ n) (hv : ∃ g c, v = .slice (some ⟨g, 0, none⟩) m c) : w.ownsRow B e 2 v m (ys.take (m * 2)) := by
  obtain ⟨g, c, rfl⟩ := hv
  obtain ⟨h1, h2⟩ := h
  rcases h2 with ⟨h2, -⟩ | ⟨g', cap, cur, hv, hg, hh, hcap, hmx, hsz, hx⟩
  · simp [inPlace] at h2
  · simp only [inPlace, Value.slice.injEq, Option.some.injEq, Addr.mk.injEq, and_true, true_and] at hv
    obtain ⟨rfl, rfl⟩ := hv
    refine ⟨by rw [List.length_take, h1]; omega, Or.inr ⟨g, c, cur, rfl, hg, hh, by omega, hmx, hsz, ?_⟩⟩
    rw [← hx, List.take_take]
    congr 1; omega
/-- What a region with one append does: only the slice's own block may change, once. -/
def GA (B : Nat) (e : TypeId) (v : Value) (n : Nat) (ys : List Value) (a b : World) : Prop :=
  KB (fun k => v.ownBlock = some k) a b ∧ ∀ g, v.ownBlock = some g → b.heap[g]? = a.heap[g]? ∨ b.ownsRow B e 2 (inPlace v n) n ys
section
variable {B : Nat} {e : TypeId} {v : Value} {n : Nat} {ys : List Value}
theorem GA.refl (a : World) : GA B e v n ys a a := ⟨KB.refl _ _, fun _ _ => .inl rfl⟩
theorem GA.trans (a b c : World) (h : GA B e v n ys a b) (k : GA B e v n ys b c) : GA B e v n ys a c := by
  refine ⟨h.1.trans k.1, fun g hg => ?_⟩
  rcases k.2 g hg with h2 | h2
  · rcases h.2 g hg with h1 | h1
    · exact .inl (h2.trans h1)
    · refine .inr (own_at2 h1 fun g' hg' => ?_)
      rw [inPlace_block, hg] at hg'
      obtain rfl := Option.some.inj hg'
      exact h2
  · exact .inr h2
theorem GA.start (a : World) : GA B e v n ys a a.drew := ⟨(KB.refl _ _).drew, fun _ _ => .inl rfl⟩
theorem GA.kb {F0' : Nat → Prop} {a b : World} (hk : KB F0' a b) (hF : ∀ k, ¬ F0' k) (hlt : ∀ g, v.ownBlock = some g → g < a.heap.size) : GA B e v n ys a b :=
  ⟨hk.mono (fun k _ h => (hF k h).elim), fun g hg => .inl (hk.block g (hlt g hg) (hF g))⟩
theorem GA.old {a b : World} {m : Nat} (h : GA B e v n ys a b) (ho : a.ownsRow B e 2 v m (ys.take (m * 2))) (hm : m ≤ n) : b.ownsRow B e 2 v m (ys.take (m * 2)) := by
  obtain ⟨h1, h2⟩ := ho
  rcases h2 with ⟨rfl, h2⟩ | ⟨g, cap, cur, rfl, hb, hh, r⟩
  · exact ⟨h1, Or.inl ⟨rfl, h2⟩⟩
  · rcases h.2 g rfl with h3 | h3
    · exact ⟨h1, Or.inr ⟨g, cap, cur, rfl, hb, by rw [h3]; exact hh, r⟩⟩
    · exact own_prefix h3 hm ⟨g, cap, rfl⟩
/-- The fact that the append leaves. -/
def FA (B N0 : Nat) (e : TypeId) (v : Value) (n : Nat) (ys : List Value) (v' : Value) (w : World) : Prop :=
  w.ownsRow B e 2 v' n ys ∧ (v' = inPlace v n ∨ ∀ g, v'.ownBlock = some g → v.ownBlock ≠ some g ∧ N0 ≤ g)
theorem FA.lasts {N0 : Nat} {v' : Value} {a b : World} (h : GA B e v n ys a b) (f : FA B N0 e v n ys v' a) : FA B N0 e v n ys v' b := by
  obtain ⟨f1, f2⟩ := f
  refine ⟨?_, f2⟩
  rcases f2 with rfl | f2
  · cases hv : v.ownBlock with
    | none => exact own_at2 f1 (fun g hg => by rw [inPlace_block, hv] at hg; cases hg)
    | some g =>
      rcases h.2 g hv with h1 | h1
      · refine own_at2 f1 (fun g' hg' => ?_)
        rw [inPlace_block, hv] at hg'
        obtain rfl := Option.some.inj hg'
        exact h1
      · exact h1
  · exact own_kb f1 h.1 (fun g hg hS => (f2 g hg).1 hS)
end
theorem kindW_monoG {G : World → World → Prop} (l : List (Nat × (Value → Prop) × (Value → World → Prop))) (hl : ∀ p ∈ l, ∀ v a b, G a b → p.2.2 v a → p.2.2 v b) : ∀ i Fp Fw, kindW l i = .rel Fp Fw → ∀ xs v a b, G a b → Fw xs v a → Fw xs v b := by
  intro i Fp Fw h xs v a b hG hf
  unfold kindW at h
  split at h
  · rename_i p hp
    cases h
    exact hl p (List.mem_of_find?_eq_some hp) v a b hG hf
  · cases h
/-- The append itself. -/
theorem run_append_two {P : Program} (w : World) (base N0 : Nat) (hN0 : N0 ≤ w.heap.size) (t ty e : TypeId) {z : Value} {bytes : Nat} (hinfo : (P.info? e).map (fun i => (i.zero, i.size, i.bytes)) = some (some z, 2, bytes)) (ht : P.underlying t = some (.slice e)) (hzs : z.cells.size = 2)
    (v : Value) (n : Nat) (xs : List Value) (hown : w.ownsRow base e 2 v n xs) (a : Addr) (c : Nat) (cs : List Value) (hcl : cs.length = 2) (hu : ∀ j x, cs[j]? = some x → w.cell? (a.add j) = some x) (h1 : ∀ x ∈ cs, x.oneCell' = true)
    (h63 : n + 1 ≤ maxLen) (hbytes : (n + 1) * bytes ≤ 140737488355328) (hbase : base ≤ w.heap.size) :
    ∃ v' w', (Builtin.append_ #[t, t] ty #[v, .slice (some a) 1 c]).run P w = .ok v' w' ∧ FA base N0 e v (n + 1) (xs ++ cs) v' w' ∧ GA base e v (n + 1) (xs ++ cs) w w' := by
  obtain ⟨i, hi, hz, hsize, hby⟩ := info_parts hinfo
  by_cases hroom : ∃ g cap, v = .slice (some ⟨g, 0, none⟩) n cap ∧ n + 1 ≤ cap
  · obtain ⟨g, cap, rfl, hcap⟩ := hroom
    obtain ⟨w', hr, h2, h3⟩ := run_append_fits (P := P) w base t ty e i 2 ht hi hsize g n cap xs hown a 1 c cs (by rw [hcl]) hu h1 hcap
    refine ⟨_, w', hr, ⟨h2, .inl rfl⟩, ⟨⟨h3.os, h3.tape, h3.output, h3.size, fun k hk hn => h3.block k hk (fun e => hn (by rw [e]; rfl))⟩, fun g' hg' => .inr h2⟩⟩
  · -- a new block
    have hlen := hown.1
    have mk : ∀ (old : Nat), old < n + 1 →
        (w.drew.alloc (.cells (xs.toArray ++ cs.toArray ++ Builtin.zeroCells z.cells (grownCap w (n + 1) old e - (n + 1))) e)).ownsRow base e 2
          (.slice (some ⟨w.heap.size, 0, none⟩) (n + 1) (grownCap w (n + 1) old e)) (n + 1) (xs ++ cs) ∧
        KB (fun _ => False) w (w.drew.alloc (.cells (xs.toArray ++ cs.toArray ++ Builtin.zeroCells z.cells (grownCap w (n + 1) old e - (n + 1))) e)) := by
      intro old ho
      have hge := grownCap_ge w (n + 1) old e
      have hcm : grownCap w (n + 1) old e ≤ maxLen := grownCap_le_maxLen w (n + 1) old e h63
      refine ⟨⟨by rw [List.length_append, hlen, hcl]; omega, .inr ⟨w.heap.size, _, _, rfl, hbase, heap_alloc_new w.drew _, hge, hcm, ?_, ?_⟩⟩, (KB.refl _ _).drew.alloc _⟩
      · simp only [Array.size_append, List.size_toArray, size_zeroCells, hzs, hlen, hcl]
        omega
      · simp only [Array.toList_append, List.append_assoc]
        rw [← List.append_assoc, show (n + 1) * 2 = (xs ++ cs).length by rw [List.length_append, hlen, hcl]; omega]
        exact List.take_left
    have hlt : ∀ g, v.ownBlock = some g → g < w.heap.size := fun g hg => by
      rcases hown.2 with ⟨rfl, -⟩ | ⟨g', cap, cur, rfl, -, hh, -⟩
      · cases hg
      · simp [Value.ownBlock] at hg; subst hg; exact heap_lt hh
    have fin : ∀ {w' : World} {cap' : Nat}, w'.ownsRow base e 2 (.slice (some ⟨w.heap.size, 0, none⟩) (n + 1) cap') (n + 1) (xs ++ cs) → KB (fun _ => False) w w' →
        FA base N0 e v (n + 1) (xs ++ cs) (.slice (some ⟨w.heap.size, 0, none⟩) (n + 1) cap') w' ∧ GA base e v (n + 1) (xs ++ cs) w w' := fun h2 hk =>
      ⟨⟨h2, .inr (fun g hg => by
        simp [Value.ownBlock] at hg
        exact ⟨fun hv => by have := hlt g hv; omega, by omega⟩)⟩, hk.mono (fun _ _ h => h.elim), fun g hg => .inl (hk.block g (hlt g hg) (fun x => x))⟩
    rcases hown.2 with ⟨rfl, rfl⟩ | ⟨g, cap, cur, rfl, hbg, hg, hnc, hcm, hcs, htake⟩
    · have hx : xs = [] := List.eq_nil_of_length_eq_zero (by simpa using hlen)
      subst hx
      have hr := run_append_nil (P := P) w t ty e i z ht hi hz a 1 c cs (by rw [hsize, hcl]) hu (by omega) (by omega) (by rw [hby]; simp only [Nat.zero_add, Nat.one_mul] at hbytes; omega)
      obtain ⟨m1, m2⟩ := mk 0 (by omega)
      simp only [Nat.zero_add, List.nil_append, Array.empty_append] at m1 m2 fin ⊢
      exact ⟨_, _, hr, fin m1 m2⟩
    · have hcap : cap < n + 1 := by
        apply Classical.byContradiction
        intro h
        exact hroom ⟨g, cap, rfl, by omega⟩
      have hr := run_append_grow (P := P) w t ty e i z ht hi hz ⟨g, 0, none⟩ n cap xs (by rw [hsize]; exact hlen) (hown.cells (g := g) rfl) a 1 c cs (by rw [hsize, hcl]) hu (by omega) (by unfold maxLen at h63; omega)
        (growslice_fits (by omega) (by rw [hby]; exact hbytes))
      obtain ⟨m1, m2⟩ := mk cap hcap
      exact ⟨_, _, hr, fin m1 m2⟩
theorem opVal_append {P : Program} {o : Oper} {act : Act} {w : World} (base N0 : Nat) (hN0 : N0 ≤ w.heap.size) (s x : Operand) (t e : TypeId) {z : Value} {bytes : Nat} (ho : o.op = .call { callee := .builtin .append, args := #[s, x], argTypes := #[t, t] })
    (hinfo : (P.info? e).map (fun i => (i.zero, i.size, i.bytes)) = some (some z, 2, bytes)) (ht : P.underlying t = some (.slice e)) (hzs : z.cells.size = 2)
    (v : Value) (n : Nat) (xs : List Value) (hs : act.eval s = v) (hown : w.ownsRow base e 2 v n xs) (nb c : Nat) (cs : List Value) (hcl : cs.length = 2) (te : TypeId) (hx : act.eval x = .slice (some ⟨nb, 0, none⟩) 1 c) (hu : w.heap[nb]? = some (.cells cs.toArray te (0, 0))) (h1 : ∀ x ∈ cs, x.oneCell' = true)
    (h63 : n + 1 ≤ maxLen) (hbytes : (n + 1) * bytes ≤ 140737488355328) (hbase : base ≤ w.heap.size) :
    OpVal P o act w (fun v' w' => FA base N0 e v (n + 1) (xs ++ cs) v' w' ∧ GA base e v (n + 1) (xs ++ cs) w w') := by
  obtain ⟨v', w', hr, h2, h3⟩ := run_append_two (P := P) w base N0 hN0 t o.type e hinfo ht hzs v n xs hown ⟨nb, 0, none⟩ c cs hcl (cells_of_block hu) h1 h63 hbytes hbase
  refine opVal_value (v := v') (w' := w') ?_ ⟨h2, h3⟩
  unfold execOp
  simp only [ho, resolve, invoke, builtin, Sem.run_bind, Sem.run_pure, Result.andThen_ok, List.map_toArray, List.map_cons, List.map_nil, hs, hx, hr]
theorem opVal_imp {P : Program} {o : Oper} {a : Act} {w : World} {ψ φ : Value → World → Prop} (h : OpVal P o a w ψ) (hi : ∀ v w', ψ v w' → φ v w') : OpVal P o a w φ := by
  unfold OpVal at h ⊢
  split at h
  · exact hi _ _ h
  · exact h.mono fun e w' ⟨v, h1, h2⟩ => ⟨v, h1, hi _ _ h2⟩
  · exact h
end Go.Proofs.YtaeppaaolkcbbaaGreatDoor.A2

/- Lists of trees in memory of their own. -/
import Derived.Test.YtjefoojkgocinaaDoorTrJoin
namespace Go.Proofs.YtjefoojkgocinaaDoor
open Go.RowKit

/-- Trees in memory of their own, from block B on. -/
structure OwnTrs (w : World) (B : Nat) (v : Value) (ts : List (List Nd)) (vs : List Value) : Prop where
  len : vs.length = ts.length
  row : w.ownsRow B 31 1 v ts.length vs
  trees : ∀ k, k < ts.length → ∃ ls, OwnTs w B (vs.getD k undef) (ts.getD k []) ls
theorem ownTrs_nil (w : World) (B : Nat) : OwnTrs w B (.slice none 0 0) [] [] := ⟨rfl, World.ownsRow_nil _ _ _ _, fun k hk => by simp at hk⟩
theorem OwnTrs.kb {w w' : World} {B : Nat} {v : Value} {ts : List (List Nd)} {vs : List Value} (h : OwnTrs w B v ts vs) {S : Nat → Prop} (hk : KB S w w') (hS : ∀ g, B ≤ g → g < w.heap.size → ¬ S g) : OwnTrs w' B v ts vs :=
  ⟨h.len, own_kb h.row hk (fun g e => by obtain ⟨c1, h4, hb⟩ := own_block h.row e; exact hS g hb (heap_lt h4)), fun k hk' => by obtain ⟨ls, h5⟩ := h.trees k hk'; exact ⟨ls, h5.kb hk hS⟩⟩
theorem OwnTrs.kbF {w w' : World} {B : Nat} {v : Value} {ts : List (List Nd)} {vs : List Value} (h : OwnTrs w B v ts vs) (hk : KB F0 w w') : OwnTrs w' B v ts vs := h.kb hk (fun _ _ _ x => x)
theorem OwnTrs.push {w w' : World} {B : Nat} {v v' u : Value} {ts : List (List Nd)} {t : List Nd} {vs ls : List Value} (h : OwnTrs w B v ts vs) (hu : OwnTs w B u t ls)
    (h' : w'.ownsRow B 31 1 v' (ts.length + 1) (vs ++ [u])) (hg : w.grownBy w' v.ownBlock) : OwnTrs w' B v' (ts ++ [t]) (vs ++ [u]) := by
  have hne : ∀ {e : TypeId} {u : Value} {z n : Nat} {xs : List Value}, e ≠ 31 → w.ownsRow B e z u n xs → w'.ownsRow B e z u n xs := fun he hu => own_grown hu hg (fun g e1 e2 => by
    obtain ⟨c1, h1, -⟩ := own_block hu e1
    obtain ⟨c2, h2, -⟩ := own_block h.row e2
    rw [h1] at h2
    simp only [Option.some.injEq, Obj.cells.injEq] at h2
    exact he h2.2.1)
  have hne2 : ∀ {u : Value} {t : List Nd} {ls : List Value}, OwnTs w B u t ls → OwnTs w' B u t ls := fun hu => ⟨hu.len, hne (by decide) hu.row, fun k hk => hne (by decide) (hu.lists k hk)⟩
  refine ⟨by simp [h.len], ?_, ?_⟩
  · rw [List.length_append]; exact h'
  · intro k hk
    rw [List.length_append, List.length_singleton] at hk
    by_cases hlt : k < ts.length
    · have e1 : (vs ++ [u]).getD k undef = vs.getD k undef := by simp [List.getD_eq_getElem?_getD, List.getElem?_append_left (show k < vs.length by rw [h.len]; exact hlt)]
      have e2 : (ts ++ [t]).getD k [] = ts.getD k [] := by simp [List.getD_eq_getElem?_getD, List.getElem?_append_left hlt]
      rw [e1, e2]
      obtain ⟨ls1, h1⟩ := h.trees k hlt
      exact ⟨ls1, hne2 h1⟩
    · obtain rfl : k = ts.length := by omega
      have e1 : (vs ++ [u]).getD ts.length undef = u := by simp [List.getD_eq_getElem?_getD, ← h.len]
      have e2 : (ts ++ [t]).getD ts.length [] = t := by simp [List.getD_eq_getElem?_getD]
      rw [e1, e2]
      exact ⟨ls, hne2 hu⟩
theorem OwnTrs.at_ {w : World} {B : Nat} {v : Value} {ts : List (List Nd)} {vs : List Value} (h : OwnTrs w B v ts vs) : ∃ a c, v = .slice a ts.length c ∧ TreesAt w a ts ∧ ts.length ≤ c ∧ c ≤ 9223372036854775807 := by
  obtain ⟨a, cap, rfl, h1, h2, hc, -⟩ := own_shape h.row
  refine ⟨a, cap, rfl, fun k hk => ?_, h1, by unfold maxLen at h2; omega⟩
  obtain ⟨g, rfl, -, hcl⟩ := hc k (by omega)
  obtain ⟨ls, ht⟩ := h.trees k hk
  obtain ⟨ta, tc, hv, hn, h3, h4, -⟩ := ht.nodes
  refine ⟨g, 0, rfl, ta, tc, ?_, hn, h3, by unfold maxLen at h4; omega⟩
  rw [Nat.zero_add, hcl, ← hv]
  have : k < vs.length := by rw [h.len]; exact hk
  simp [List.getD_eq_getElem?_getD, this]
theorem OwnTrs.treesAt {w : World} {B n c : Nat} {a : Option Addr} {ts : List (List Nd)} {vs : List Value} (h : OwnTrs w B (.slice a n c) ts vs) : TreesAt w a ts := by
  obtain ⟨a', c', e, hn, -⟩ := h.at_
  simp only [Value.slice.injEq] at e
  obtain ⟨rfl, -, -⟩ := e
  exact hn
theorem Tryd.infoTree : (Tryd.prog.info? 31).map (fun i => (i.zero, i.size, i.bytes)) = some (some (.agg #[.slice none 0 0]), 1, 24) := by kernel_rfl
theorem Tryd.underlying26' : Tryd.prog.underlying 26 = some (.slice 31) := by kernel_rfl
theorem joinT_ok {x : Nd} {l : List (List Nd)} (hx : NdOk x) (hok : NdOks l) : ∀ y ∈ joinT x l, NdOk y := by
  unfold joinT
  by_cases h : joinE x l = 0
  · rw [if_pos h]
    unfold joinE at h
    by_cases h1 : l.all mayN = true
    · rw [if_pos h1] at h
      by_cases h2 : 16384 < 1 + sizes l
      · rw [if_pos h2] at h; cases h
      · exact joinN_ok hx (by omega) (List.all_eq_true.1 h1) hok
    · rw [if_neg h1] at h; cases h
  · rw [if_neg h]; intro y hy; cases hy
theorem joinT_len {x : Nd} {l : List (List Nd)} : (joinT x l).length ≤ 1 + sizes l := by
  unfold joinT
  split
  · rw [joinN_len]; exact Nat.le_refl _
  · exact Nat.zero_le _
end Go.Proofs.YtjefoojkgocinaaDoor

/- Plain facts for the law HeapApart: blocks cover words; the taken ones are distinct; an array of counts. -/
import Derived.Test.YtnfoabccbkedgaaHeapEach
namespace Go.Proofs.Ytnfoabccbkedgaa
open Go.RowKit Go.Shelf

/-- A block's first address. -/
def aN (p : Blk) : Nat := hb p.1.1 + p.1.2 * 2 ^ p.1.1
def covers (p : Blk) (j : Nat) : Prop := aN p ≤ j ∧ j < aN p + 2 ^ p.1.1
theorem addr_aN (p : Blk) : addr p.1 = ((aN p : Nat) : Int) := rfl
theorem aN_bounds (p : Blk) : hb p.1.1 ≤ aN p ∧ aN p + 2 ^ p.1.1 ≤ hb (p.1.1 + 1) ∧ 1 ≤ aN p ∧ aN p + 2 ^ p.1.1 ≤ 373 := by
  obtain ⟨⟨c, m⟩, hc, hm⟩ := p
  simp only at hc hm
  obtain ⟨v0, v1, v2, v3, v4, v5⟩ := hb_vals
  unfold aN
  obtain rfl | rfl | rfl | rfl | rfl : c = 0 ∨ c = 1 ∨ c = 2 ∨ c = 3 ∨ c = 4 := by omega
  all_goals
    simp only [v0, v1, v2, v3, v4, v5, Nat.reduceAdd, Nat.reducePow]
    omega
theorem covers_eq {p q : Blk} {j : Nat} (hp : covers p j) (hq : covers q j) : p = q := by
  have bp := aN_bounds p
  have bq := aN_bounds q
  obtain ⟨v0, v1, v2, v3, v4, v5⟩ := hb_vals
  obtain ⟨⟨c, m⟩, hc, hm⟩ := p
  obtain ⟨⟨c', m'⟩, hc', hm'⟩ := q
  simp only at hc hm hc' hm' bp bq
  unfold covers at hp hq
  simp only at hp hq
  have hcc : c = c' := by
    obtain rfl | rfl | rfl | rfl | rfl : c = 0 ∨ c = 1 ∨ c = 2 ∨ c = 3 ∨ c = 4 := by omega
    all_goals
      obtain rfl | rfl | rfl | rfl | rfl : c' = 0 ∨ c' = 1 ∨ c' = 2 ∨ c' = 3 ∨ c' = 4 := by omega
    all_goals
      first
        | rfl
        | (exfalso; simp only [v0, v1, v2, v3, v4, v5, Nat.reduceAdd, Nat.reducePow] at bp bq hp hq; omega)
  subst hcc
  have hmm : m = m' := by
    unfold aN at hp hq
    simp only at hp hq
    obtain rfl | rfl | rfl | rfl | rfl : c = 0 ∨ c = 1 ∨ c = 2 ∨ c = 3 ∨ c = 4 := by omega
    all_goals
      simp only [Nat.reducePow] at hp hq
      omega
  subst hmm
  rfl

theorem takenL_nodup (s : HS) : (takenL s).Nodup := by
  unfold takenL below List.Nodup
  rw [List.pairwise_flatMap]
  refine ⟨fun c hc => ?_, ?_⟩
  · unfold part
    rw [List.pairwise_map]
    refine List.Pairwise.filter _ ?_
    refine List.Pairwise.imp_of_mem ?_ List.nodup_range
    intro a b ha hb hne he
    simp only [List.mem_range] at ha hb hc
    have := congrArg (fun x : Blk => x.1) he
    simp only [blk_val hc ha, blk_val hc hb, Prod.mk.injEq, true_and] at this
    exact hne this
  · refine List.Pairwise.imp_of_mem ?_ List.nodup_range
    intro a b ha hb hne x hx y hy he
    subst he
    unfold part at hx hy
    simp only [List.mem_map, List.mem_filter, List.mem_range] at hx hy ha hb
    obtain ⟨i, ⟨hi, _⟩, rfl⟩ := hx
    obtain ⟨j, ⟨hj, _⟩, he⟩ := hy
    have := congrArg (fun x : Blk => x.1) he
    simp only [blk_val ha hi, blk_val hb hj, Prod.mk.injEq] at this
    exact hne this.1.symm
theorem twice_no {s : HS} {pre : List Blk} {x : Blk} {j : Nat} (h : pre ++ [x] <+: takenL s) {p : Blk} (hp : p ∈ pre) (h1 : covers p j) (h2 : covers x j) : False := by
  have hn : (pre ++ [x]).Nodup := List.Nodup.sublist h.sublist (takenL_nodup s)
  rw [List.nodup_append] at hn
  exact hn.2.2 p hp x (by simp) (covers_eq h1 h2)

/-- What has been counted, word by word. -/
def marr (g : Nat → Nat) : Array Value := (Array.range 373).map fun j => .int .i64 (g j : Nat)
theorem marr_get (g : Nat → Nat) {j : Nat} (h : j < 373) : (marr g)[j]? = some (.int .i64 (g j : Nat)) := by unfold marr; simp [h]
theorem marr_set (g : Nat → Nat) (j v : Nat) : (marr g).setIfInBounds j (.int .i64 (v : Nat)) = marr (upc g j v) := by
  apply Array.ext_getElem?
  intro i
  by_cases hi : i < 373
  · rw [marr_get _ hi]
    by_cases e : j = i
    · subst e
      rw [Array.getElem?_setIfInBounds_self]
      simp [marr, hi, upc]
    · rw [Array.getElem?_setIfInBounds_ne e, marr_get _ hi]
      unfold upc; rw [if_neg (fun x => e x.symm)]
  · rw [Array.getElem?_eq_none (by simp [marr]; omega), Array.getElem?_eq_none (by simp [marr]; omega)]
theorem make_met : ∀ W : World, (Instr.makeSlice 22 (.int .i64 373) (.int .i64 373)).run Try.prog W = .ok (.slice (some ⟨W.heap.size, 0, none⟩) 373 373) (W.alloc (.cells (marr fun _ => 0) 3)) := by
  intro W
  obtain ⟨i, hi, hz0, hz1, hz2⟩ := info_parts Try.infoInt
  have h := run_make (P := Try.prog) W 22 3 i _ Try.underlying22 hi hz0 .i64 .i64 373 373 (by decide) (by decide) (by rw [hz2]; decide) (by decide)
  rw [hz1] at h
  refine h.trans ?_
  have e : madeCells (Value.int .i64 0).cells ((373 : Int).toNat * 1) = marr fun _ => 0 := by
    unfold madeCells marr
    apply Array.map_congr_left
    intro a _
    have h0 : (Value.int .i64 0).cells = #[.int .i64 0] := rfl
    rw [h0, show a % (#[Value.int .i64 0] : Array Value).size = 0 by simp [Nat.mod_one]]
    rfl
  rw [e]; rfl
end Go.Proofs.Ytnfoabccbkedgaa

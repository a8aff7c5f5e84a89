/- What is taken and given back: plain data. -/
import Derived.Test.YtnfoabccbkedgaaHeapJ
namespace Go.Proofs.Ytnfoabccbkedgaa

/-- s is s0 with the blocks of L taken besides. -/
structure Rel (s0 s : HS) (L : List (Nat × Nat)) : Prop where
  nodup : L.Nodup
  mem : ∀ p ∈ L, p.1 < 5 ∧ p.2 < 12 ∧ s0.T p.1 p.2 = false
  eq : ∀ c n, c < 5 → n < 12 → s.T c n = (s0.T c n || decide ((c, n) ∈ L))
def addr (p : Nat × Nat) : Int := ((hb p.1 + p.2 * 2 ^ p.1 : Nat) : Int)

theorem Rel.nil (s0 : HS) : Rel s0 s0 [] := ⟨List.nodup_nil, fun p h => (by cases h), fun c n _ _ => by simp⟩
theorem Rel.take {s0 s : HS} {L : List (Nat × Nat)} (h : Rel s0 s L) {c i : Nat} (hc : c < 5) (hf : ffree (s.T c) = some i) : Rel s0 (s.mark c i) (L ++ [(c, i)]) := by
  obtain ⟨hi, hfi, _⟩ := ffree_some hf
  have he := h.eq c i hc hi
  rw [hfi] at he
  have h0 : s0.T c i = false ∧ (c, i) ∉ L := by
    cases h1 : s0.T c i <;> simp [h1] at he ⊢
    exact he
  refine ⟨?_, ?_, ?_⟩
  · rw [List.nodup_append]
    exact ⟨h.nodup, by simp, fun a ha b hb => by simp at hb; subst hb; intro e; subst e; exact h0.2 ha⟩
  · intro p hp
    rcases List.mem_append.1 hp with hp | hp
    · exact h.mem p hp
    · simp at hp; subst hp; exact ⟨hc, hi, h0.1⟩
  · intro c' n hc' hn
    simp only [HS.mark, upc]
    by_cases e : c' = c
    · subst e
      simp only [if_true, up]
      by_cases e2 : n = i
      · subst e2; simp
      · simp only [e2, if_false, h.eq c' n hc' hn]
        simp [e2]
    · simp only [e, if_false, h.eq c' n hc' hn]
      simp [e]
theorem Rel.same {s0 s : HS} {L : List (Nat × Nat)} (h : Rel s0 s L) : s.same s0 = L.isEmpty := by
  cases L with
  | nil =>
    rw [List.isEmpty_nil]
    exact same_iff.2 fun c hc => eqc_iff.2 fun i hi => by rw [h.eq c i hc hi]; simp
  | cons p L =>
    rw [List.isEmpty_cons]
    cases hq : s.same s0 with
    | false => rfl
    | true =>
      obtain ⟨h1, h2, h3⟩ := h.mem p List.mem_cons_self
      have := eqc_iff.1 (same_iff.1 hq p.1 h1) p.2 h2
      rw [h.eq p.1 p.2 h1 h2, h3] at this
      simp at this
theorem same_comm {s t : HS} (h : s.same t = true) : t.same s = true :=
  same_iff.2 fun c hc => eqc_iff.2 fun i hi => (eqc_iff.1 (same_iff.1 h c hc) i hi).symm
theorem Rel.perm {s0 s : HS} {L L' : List (Nat × Nat)} (h : Rel s0 s L) (hp : L.Perm L') : Rel s0 s L' :=
  ⟨hp.nodup_iff.1 h.nodup, fun p hm => h.mem p (hp.mem_iff.2 hm), fun c n hc hn => by rw [h.eq c n hc hn]; congr 1; exact decide_eq_decide.2 hp.mem_iff⟩
theorem Rel.give {s0 s : HS} {p : Nat × Nat} {L : List (Nat × Nat)} (h : Rel s0 s (p :: L)) :
    s.give (addr p) = (0, s.free p.1 p.2) ∧ (s.free p.1 p.2).give (addr p) = (261, s.free p.1 p.2) ∧ Rel s0 (s.free p.1 p.2) L := by
  obtain ⟨h1, h2, h3⟩ := h.mem p List.mem_cons_self
  have hb : hblk (addr p) = some (p.1, p.2) := hblk_addr h1 h2
  have ht : s.T p.1 p.2 = true := by rw [h.eq p.1 p.2 h1 h2]; simp
  have hn := List.nodup_cons.1 h.nodup
  refine ⟨?_, ?_, hn.2, fun q hq => h.mem q (List.mem_cons_of_mem _ hq), ?_⟩
  · unfold HS.give; rw [hb]; simp [ht]
  · unfold HS.give; rw [hb]; simp [HS.free, upc, up]
  · intro c n hc hn'
    simp only [HS.free, upc]
    by_cases e : c = p.1
    · subst e
      simp only [if_true, up]
      by_cases e2 : n = p.2
      · subst e2; simp [h3, hn.1]
      · simp only [e2, if_false, h.eq _ n hc hn']
        have : ((p.1, n) ∈ p :: L) ↔ ((p.1, n) ∈ L) := by
          rw [List.mem_cons]
          exact ⟨fun x => x.resolve_left (fun y => e2 (congrArg Prod.snd y)), Or.inr⟩
        simp [this]
    · simp only [e, if_false, h.eq c n hc hn']
      have : ((c, n) ∈ p :: L) ↔ ((c, n) ∈ L) := by
        rw [List.mem_cons]
        exact ⟨fun x => x.resolve_left (fun y => e (congrArg Prod.fst y)), Or.inr⟩
      simp [this]

theorem ffree_cnt (f : Nat → Bool) : (ffree f = none ↔ cnt f = 12) := by
  constructor
  · intro h
    have := ffree_none h
    unfold cnt
    rw [List.countP_eq_length.2 (fun a ha => this a (by simpa using ha))]; simp
  · intro h
    apply ffree_no
    intro j hj
    unfold cnt at h
    have := List.countP_eq_length.1 (by rw [h]; simp : (List.range 12).countP f = (List.range 12).length) j (by simpa using hj)
    exact this

/-- What a Take answers, told by whether the class is full. -/
theorem take_cases (s : HS) (x : Int) : (s.take x = (0, 2, s) ∧ (x < 0 ∨ 5 ≤ x)) ∨
    (∃ c : Nat, x = c ∧ c < 5 ∧ cnt (s.T c) = 12 ∧ s.take x = (0, 260, s)) ∨
    (∃ c i : Nat, x = c ∧ c < 5 ∧ cnt (s.T c) ≠ 12 ∧ ffree (s.T c) = some i ∧ s.take x = (addr (c, i), 0, s.mark c i)) := by
  by_cases hc : x < 0 ∨ 5 ≤ x
  · left; exact ⟨by unfold HS.take; rw [if_pos hc], hc⟩
  · right
    obtain ⟨k, rfl⟩ := Int.eq_ofNat_of_zero_le (show 0 ≤ x by omega)
    cases hf : ffree (s.T k) with
    | none => left; exact ⟨k, rfl, by omega, (ffree_cnt _).1 hf, by unfold HS.take; rw [if_neg hc, Int.toNat_natCast, hf]⟩
    | some i => right; exact ⟨k, i, rfl, by omega, (fun h => by rw [(ffree_cnt _).2 h] at hf; cases hf), hf, by unfold HS.take; rw [if_neg hc, Int.toNat_natCast, hf]; rfl⟩
end Go.Proofs.Ytnfoabccbkedgaa

/- Trees whose numbers come one behind the other: plain facts. -/
import Derived.Test.YtoophdcagpfmpaaGreatDoorTreeJ
namespace Go.Proofs.YtoophdcagpfmpaaGreatDoor
open Go.RowKit

/-- Down through children, one behind the other: the number that comes next. -/
def walkC (rec : Nat → Option Nat) (N : Nat) : List Int → Nat → Option Nat
  | [], m => some m
  | c :: cs, m => if c = (m : Int) ∧ m < N then (rec m).bind (walkC rec N cs) else none
/-- The number behind all that is below a node (so much fuel is enough). -/
def walkF (ts : List Nd) : Nat → Nat → Option Nat
  | 0, _ => none
  | f + 1, n => walkC (walkF ts f) ts.length (ts.getD n nd0).l (n + 1)
theorem walkC_le {rec : Nat → Option Nat} {N : Nat} (hrec : ∀ m k, m < N → rec m = some k → m < k ∧ k ≤ N) (l : List Int) : ∀ m k, m ≤ N → walkC rec N l m = some k → m ≤ k ∧ k ≤ N := by
  induction l with
  | nil => intro m k hm h; simp only [walkC, Option.some.injEq] at h; omega
  | cons c cs ih =>
    intro m k hm h
    unfold walkC at h
    split at h
    · rename_i hc
      obtain ⟨m', h1, h2⟩ := Option.bind_eq_some_iff.1 h
      have := hrec m m' hc.2 h1
      have := ih m' k this.2 h2
      omega
    · cases h
theorem walkF_le (ts : List Nd) (f : Nat) : ∀ n k, n < ts.length → walkF ts f n = some k → n < k ∧ k ≤ ts.length := by
  induction f with
  | zero => intro n k _ h; cases h
  | succ f ih =>
    intro n k hn h
    have := walkC_le (fun m k => ih m k) _ (n + 1) k (by omega) h
    omega

/-- Every child stands behind its parent. -/
def Down (ts : List Nd) : Prop := ∀ n, n < ts.length → ∀ c ∈ (ts.getD n nd0).l, (n : Int) < c ∧ c < (ts.length : Int)
def deepC (rec : Nat → Nat) : List Int → Nat → Nat
  | [], d => d
  | c :: cs, d => deepC rec cs (if d < rec c.toNat then rec c.toNat else d)
/-- How deep a tree is below a node (so much fuel is enough). -/
def deepF (ts : List Nd) : Nat → Nat → Nat
  | 0, _ => 0
  | f + 1, n => deepC (deepF ts f) (ts.getD n nd0).l 0 + 1
theorem deepC_le {rec : Nat → Nat} {f : Nat} (h : ∀ m, rec m ≤ f) (l : List Int) : ∀ d, d ≤ f → deepC rec l d ≤ f := by
  induction l with
  | nil => intro d hd; exact hd
  | cons c cs ih =>
    intro d hd
    unfold deepC
    refine ih _ ?_
    split
    · exact h _
    · exact hd
theorem deepF_le (ts : List Nd) (f : Nat) : ∀ n, deepF ts f n ≤ f := by
  induction f with
  | zero => intro n; exact Nat.le_refl _
  | succ f ih =>
    intro n
    have := deepC_le ih (ts.getD n nd0).l 0 (by omega)
    unfold deepF; omega

theorem walkC_congr {r1 r2 : Nat → Option Nat} {N lo : Nat} (h : ∀ m, lo ≤ m → m < N → r1 m = r2 m) (hinc : ∀ m k, m < N → r1 m = some k → m < k ∧ k ≤ N) (l : List Int) : ∀ m, lo ≤ m → walkC r1 N l m = walkC r2 N l m := by
  induction l with
  | nil => intro m _; rfl
  | cons c cs ih =>
    intro m hm
    unfold walkC
    by_cases hc : c = (m : Int) ∧ m < N
    · rw [if_pos hc, if_pos hc, ← h m hm hc.2]
      cases e : r1 m with
      | none => rfl
      | some k =>
        have := hinc m k hc.2 e
        exact ih k (by omega)
    · rw [if_neg hc, if_neg hc]
theorem walkF_fuel (ts : List Nd) (f : Nat) : ∀ f' n, n < ts.length → ts.length ≤ n + f → ts.length ≤ n + f' → walkF ts f n = walkF ts f' n := by
  induction f with
  | zero => intro f' n h1 h2; omega
  | succ f ih =>
    intro f' n h1 h2 h3
    cases f' with
    | zero => omega
    | succ f' =>
      unfold walkF
      exact walkC_congr (lo := n + 1) (fun m hm hN => ih f' m hN (by omega) (by omega)) (walkF_le ts f) _ _ (Nat.le_refl _)
/-- The number behind all that is below a node. -/
def Wt (ts : List Nd) (n : Nat) : Option Nat := walkF ts ts.length n
theorem walkF_wt {ts : List Nd} {f n : Nat} (hn : n < ts.length) (hf : ts.length ≤ n + f) : walkF ts f n = Wt ts n := walkF_fuel ts f _ n hn hf (by omega)
theorem Wt_le {ts : List Nd} {n k : Nat} (hn : n < ts.length) (h : Wt ts n = some k) : n < k ∧ k ≤ ts.length := walkF_le ts _ n k hn h
theorem Wt_eq {ts : List Nd} {n : Nat} (_hn : n < ts.length) : Wt ts n = walkC (Wt ts) ts.length (ts.getD n nd0).l (n + 1) := by
  obtain ⟨N', hN⟩ : ∃ N', ts.length = N' + 1 := ⟨ts.length - 1, by omega⟩
  have h : Wt ts n = walkC (walkF ts N') ts.length (ts.getD n nd0).l (n + 1) := by
    show walkF ts ts.length n = _
    rw [show walkF ts ts.length n = walkF ts (N' + 1) n by rw [hN]]
    rfl
  rw [h]
  exact walkC_congr (lo := n + 1) (fun m hm hmN => walkF_wt hmN (by omega)) (walkF_le ts N') _ _ (Nat.le_refl _)

end Go.Proofs.YtoophdcagpfmpaaGreatDoor

namespace Go.Proofs.YtoophdcagpfmpaaGreatDoor
open Go.RowKit

theorem chain_mem {rec : Nat → Option Nat} {N : Nat} (hrec : ∀ m k, m < N → rec m = some k → m < k ∧ k ≤ N) (l : List Int) : ∀ m k, walkC rec N l m = some k → ∀ c ∈ l, ∃ q k', c = ((q : Nat) : Int) ∧ q < N ∧ rec q = some k' ∧ m ≤ q ∧ q < k' ∧ k' ≤ k := by
  induction l with
  | nil => intro m k h c hc; cases hc
  | cons a cs ih =>
    intro m k h c hc
    unfold walkC at h
    split at h
    · rename_i ha
      obtain ⟨m', h1, h2⟩ := Option.bind_eq_some_iff.1 h
      have hm' := hrec m m' ha.2 h1
      have hk := walkC_le hrec cs m' k hm'.2 h2
      rcases List.mem_cons.1 hc with rfl | hc
      · exact ⟨m, m', ha.1, ha.2, h1, Nat.le_refl _, hm'.1, hk.1⟩
      · obtain ⟨q, k', e1, e2, e3, e4, e5, e6⟩ := ih m' k h2 c hc
        exact ⟨q, k', e1, e2, e3, by omega, e5, e6⟩
    · cases h
theorem chain_cover {rec : Nat → Option Nat} {N : Nat} (hrec : ∀ m k, m < N → rec m = some k → m < k ∧ k ≤ N) (l : List Int) : ∀ m k, walkC rec N l m = some k → ∀ j, m ≤ j → j < k → ∃ q k' : Nat, ((q : Nat) : Int) ∈ l ∧ q < N ∧ rec q = some k' ∧ m ≤ q ∧ q ≤ j ∧ j < k' := by
  induction l with
  | nil => intro m k h j h1 h2; simp only [walkC, Option.some.injEq] at h; omega
  | cons a cs ih =>
    intro m k h j h1 h2
    unfold walkC at h
    split at h
    · rename_i ha
      obtain ⟨m', e1, e2⟩ := Option.bind_eq_some_iff.1 h
      by_cases hj : j < m'
      · exact ⟨m, m', by rw [ha.1]; exact List.mem_cons_self, ha.2, e1, Nat.le_refl _, h1, hj⟩
      · obtain ⟨q, k', f1, f2, f3, f4, f5, f6⟩ := ih m' k e2 j (by omega) h2
        have := (hrec m m' ha.2 e1).1
        exact ⟨q, k', List.mem_cons_of_mem _ f1, f2, f3, by omega, f5, f6⟩
    · cases h
theorem chain_next {rec : Nat → Option Nat} {N : Nat} (l : List Int) : ∀ m k, walkC rec N l m = some k → ∀ q k' : Nat, ((q : Nat) : Int) ∈ l → rec q = some k' → k' = k ∨ ((k' : Nat) : Int) ∈ l := by
  induction l with
  | nil => intro m k h q k' hq; cases hq
  | cons a cs ih =>
    intro m k h q k' hq hk
    unfold walkC at h
    split at h
    · rename_i ha
      obtain ⟨m', e1, e2⟩ := Option.bind_eq_some_iff.1 h
      rcases List.mem_cons.1 hq with e | hq
      · have : q = m := by have := ha.1; omega
        subst this
        obtain rfl : k' = m' := by rw [hk] at e1; exact Option.some.inj e1
        cases cs with
        | nil => simp only [walkC, Option.some.injEq] at e2; exact .inl e2
        | cons b cs =>
          unfold walkC at e2
          split at e2
          · rename_i hb; right; rw [← hb.1]; simp
          · cases e2
      · rcases ih m' k e2 q k' hq hk with h | h
        · exact .inl h
        · exact .inr (List.mem_cons_of_mem _ h)
    · cases h
theorem chain_disj {rec : Nat → Option Nat} {N : Nat} (hrec : ∀ m k, m < N → rec m = some k → m < k ∧ k ≤ N) (l : List Int) : ∀ m k, walkC rec N l m = some k → ∀ q q' e e' : Nat, ((q : Nat) : Int) ∈ l → ((q' : Nat) : Int) ∈ l → rec q = some e → rec q' = some e' → q < q' → e ≤ q' := by
  induction l with
  | nil => intro m k h q q' e e' hq; cases hq
  | cons a cs ih =>
    intro m k h q q' e e' hq hq' he he' hlt
    unfold walkC at h
    split at h
    · rename_i ha
      obtain ⟨m', e1, e2⟩ := Option.bind_eq_some_iff.1 h
      have hmem : ∀ p : Nat, ((p : Nat) : Int) ∈ cs → m' ≤ p := by
        intro p hp
        obtain ⟨p', k', g1, g2, g3, g4, g5, g6⟩ := chain_mem hrec cs m' k e2 _ hp
        omega
      have hm' := (hrec m m' ha.2 e1).1
      rcases List.mem_cons.1 hq with g | hq
      · have : q = m := by have := ha.1; omega
        subst this
        obtain rfl : e = m' := by rw [he] at e1; exact Option.some.inj e1
        rcases List.mem_cons.1 hq' with g | hq'
        · omega
        · exact hmem q' hq'
      · rcases List.mem_cons.1 hq' with g | hq'
        · have : q' = m := by have := ha.1; omega
          have := hmem q hq
          omega
        · exact ih m' k e2 q q' e e' hq hq' he he' hlt
    · cases h
theorem chain_len {rec : Nat → Option Nat} {N : Nat} (hrec : ∀ m k, m < N → rec m = some k → m < k ∧ k ≤ N) (l : List Int) : ∀ m k, walkC rec N l m = some k → m + l.length ≤ k := by
  induction l with
  | nil => intro m k h; simp only [walkC, Option.some.injEq] at h; simp; omega
  | cons a cs ih =>
    intro m k h
    unfold walkC at h
    split at h
    · rename_i ha
      obtain ⟨m', e1, e2⟩ := Option.bind_eq_some_iff.1 h
      have := (hrec m m' ha.2 e1).1
      have := ih m' k e2
      rw [List.length_cons]; omega
    · cases h

/-- Each number once, parents first. -/
def Good (ts : List Nd) : Prop := 0 < ts.length ∧ Wt ts 0 = some ts.length
instance (ts : List Nd) : Decidable (Good ts) := inferInstanceAs (Decidable (_ ∧ _))
abbrev kids (ts : List Nd) (n : Nat) : List Int := (ts.getD n nd0).l

section
variable {ts : List Nd}
theorem wt_rec : ∀ m k, m < ts.length → Wt ts m = some k → m < k ∧ k ≤ ts.length := fun _ _ => Wt_le
theorem wt_kids {n e : Nat} (hn : n < ts.length) (h : Wt ts n = some e) : walkC (Wt ts) ts.length (kids ts n) (n + 1) = some e := by rw [← h, Wt_eq hn]
theorem kid_mem {n e : Nat} (hn : n < ts.length) (h : Wt ts n = some e) {c : Int} (hc : c ∈ kids ts n) : ∃ q k', c = ((q : Nat) : Int) ∧ q < ts.length ∧ Wt ts q = some k' ∧ n < q ∧ q < k' ∧ k' ≤ e := by
  obtain ⟨q, k', h1, h2, h3, h4, h5, h6⟩ := chain_mem wt_rec _ _ _ (wt_kids hn h) c hc
  exact ⟨q, k', h1, h2, h3, by omega, h5, h6⟩
theorem kid_cover {n e : Nat} (hn : n < ts.length) (h : Wt ts n = some e) {j : Nat} (h1 : n < j) (h2 : j < e) : ∃ q k' : Nat, ((q : Nat) : Int) ∈ kids ts n ∧ q < ts.length ∧ Wt ts q = some k' ∧ n < q ∧ q ≤ j ∧ j < k' := by
  obtain ⟨q, k', f1, f2, f3, f4, f5, f6⟩ := chain_cover wt_rec _ _ _ (wt_kids hn h) j h1 h2
  exact ⟨q, k', f1, f2, f3, by omega, f5, f6⟩
/-- All that is below a node has an end, no later than the node's. -/
theorem wt_below (d : Nat) : ∀ n e, n < ts.length → ts.length ≤ n + d → Wt ts n = some e → ∀ j, n ≤ j → j < e → ∃ e', Wt ts j = some e' ∧ e' ≤ e := by
  induction d with
  | zero => intro n e hn hd; omega
  | succ d ih =>
    intro n e hn hd h j h1 h2
    rcases Nat.lt_or_eq_of_le h1 with h1 | rfl
    · obtain ⟨q, k', f1, f2, f3, f4, f5, f6⟩ := kid_cover hn h h1 h2
      obtain ⟨q', k'', g1, g2, g3, g4, g5, g6⟩ := kid_mem hn h f1
      obtain rfl : q = q' := by omega
      obtain rfl : k' = k'' := by rw [f3] at g3; exact Option.some.inj g3
      obtain ⟨e', he, hle⟩ := ih q k' f2 (by omega) f3 j f5 f6
      exact ⟨e', he, by omega⟩
    · exact ⟨e, h, Nat.le_refl _⟩
theorem parent_below (d : Nat) : ∀ n e, n < ts.length → ts.length ≤ n + d → Wt ts n = some e → ∀ j, n < j → j < e → ∃ p e', n ≤ p ∧ p < j ∧ (j : Int) ∈ kids ts p ∧ Wt ts p = some e' ∧ e' ≤ e := by
  induction d with
  | zero => intro n e hn hd; omega
  | succ d ih =>
    intro n e hn hd h j h1 h2
    obtain ⟨q, k', f1, f2, f3, f4, f5, f6⟩ := kid_cover hn h h1 h2
    obtain ⟨q', k'', g1, g2, g3, g4, g5, g6⟩ := kid_mem hn h f1
    obtain rfl : q = q' := by omega
    obtain rfl : k' = k'' := by rw [f3] at g3; exact Option.some.inj g3
    rcases Nat.lt_or_eq_of_le f5 with h5 | rfl
    · obtain ⟨p, e', a1, a2, a3, a4, a5⟩ := ih q k' f2 (by omega) f3 j h5 f6
      exact ⟨p, e', by omega, a2, a3, a4, by omega⟩
    · exact ⟨n, e, Nat.le_refl _, f4, f1, h, Nat.le_refl _⟩
variable (hg : Good ts)
include hg
theorem good_wt {j : Nat} (hj : j < ts.length) : ∃ e, Wt ts j = some e ∧ j < e ∧ e ≤ ts.length := by
  obtain ⟨e, h, hle⟩ := wt_below ts.length 0 ts.length hg.1 (by omega) hg.2 j (Nat.zero_le _) hj
  exact ⟨e, h, Wt_le hj h⟩
theorem good_parent {j : Nat} (hj : j < ts.length) (h0 : 0 < j) : ∃ p, p < j ∧ (j : Int) ∈ kids ts p := by
  obtain ⟨p, _, _, h2, h3, _⟩ := parent_below ts.length 0 ts.length hg.1 (by omega) hg.2 j h0 hj
  exact ⟨p, h2, h3⟩
theorem good_down : Down ts := by
  intro n hn c hc
  obtain ⟨e, he, h1, h2⟩ := good_wt hg hn
  obtain ⟨q, k', rfl, a2, a3, a4, a5, a6⟩ := kid_mem hn he hc
  omega
theorem good_len {n : Nat} (hn : n < ts.length) : (kids ts n).length < ts.length := by
  obtain ⟨e, he, h1, h2⟩ := good_wt hg hn
  have := chain_len wt_rec _ _ _ (wt_kids hn he)
  omega
/-- No number has two parents. -/
theorem good_one {p n : Nat} {c : Int} (hp : p < n) (hn : n < ts.length) (h1 : c ∈ kids ts p) (h2 : c ∈ kids ts n) : False := by
  obtain ⟨ep, hep, a1, a2⟩ := good_wt hg (show p < ts.length by omega)
  obtain ⟨en, hen, b1, b2⟩ := good_wt hg hn
  obtain ⟨q, k', rfl, c2, c3, c4, c5, c6⟩ := kid_mem (by omega) hep h1
  obtain ⟨q', k'', e1, d2, d3, d4, d5, d6⟩ := kid_mem hn hen h2
  obtain rfl : q = q' := by omega
  -- n lies below a child of p
  obtain ⟨r, kr, f1, f2, f3, f4, f5, f6⟩ := kid_cover (by omega) hep hp (show n < ep by omega)
  obtain ⟨e', he', hle⟩ := wt_below ts.length r kr f2 (by omega) f3 n f5 f6
  rw [hen] at he'
  obtain rfl := Option.some.inj he'
  have := chain_disj wt_rec _ _ _ (wt_kids (show p < ts.length by omega) hep) r q kr k' f1 h1 f3 c3 (by omega)
  omega
end

/-- How many stand above each node. -/
structure Depths (ts : List Nd) (d : List Nat) : Prop where
  len : d.length = ts.length
  zero : d.getD 0 0 = 0
  step : ∀ n, n < ts.length → ∀ c : Nat, (c : Int) ∈ kids ts n → d.getD c 0 = d.getD n 0 + 1

def aboveC (n : Nat) : List Int → List Nat → List Nat
  | [], d => d
  | c :: cs, d => aboveC n cs (d.set c.toNat (d.getD n 0 + 1))
/-- What above lays, node by node. -/
def aboveN (ts : List Nd) : Nat → List Nat
  | 0 => List.replicate ts.length 0
  | k + 1 => aboveC k (kids ts k) (aboveN ts k)
def aboveL (ts : List Nd) : List Nat := aboveN ts ts.length
theorem aboveC_len (n : Nat) (l : List Int) : ∀ d, (aboveC n l d).length = d.length := by
  induction l with
  | nil => intro d; rfl
  | cons c cs ih => intro d; rw [aboveC, ih, List.length_set]
theorem aboveN_len (ts : List Nd) (k : Nat) : (aboveN ts k).length = ts.length := by
  induction k with
  | zero => simp [aboveN]
  | succ k ih => rw [aboveN, aboveC_len, ih]
theorem getD_set {d : List Nat} {i j v : Nat} (hi : i < d.length) : (d.set i v).getD j 0 = if j = i then v else d.getD j 0 := by
  simp only [List.getD_eq_getElem?_getD, List.getElem?_set]
  by_cases h : i = j
  · subst h; simp [hi]
  · rw [if_neg h, if_neg (fun e => h e.symm)]
theorem aboveC_get (n : Nat) (l : List Int) : ∀ d, (∀ c ∈ l, (n : Int) < c ∧ c < (d.length : Int)) → ∀ j : Nat, (aboveC n l d).getD j 0 = if (j : Int) ∈ l then d.getD n 0 + 1 else d.getD j 0 := by
  induction l with
  | nil => intro d _ j; simp [aboveC]
  | cons c cs ih =>
    intro d h j
    have hc := h c List.mem_cons_self
    rw [aboveC, ih _ (fun x hx => by rw [List.length_set]; exact h x (List.mem_cons_of_mem _ hx)), getD_set (by omega), getD_set (by omega), if_neg (show ¬ n = c.toNat by omega)]
    by_cases hj : (j : Int) ∈ cs
    · rw [if_pos hj, if_pos (List.mem_cons_of_mem _ hj)]
    · rw [if_neg hj]
      by_cases hjc : (j : Int) = c
      · rw [if_pos (by omega), if_pos (by rw [hjc]; exact List.mem_cons_self)]
      · rw [if_neg (by omega), if_neg (fun hm => by rcases List.mem_cons.1 hm with e | e; exact hjc e; exact hj e)]
theorem depths_above {ts : List Nd} (hg : Good ts) : Depths ts (aboveL ts) := by
  have hd := good_down hg
  have inv : ∀ k, k ≤ ts.length → (aboveN ts k).getD 0 0 = 0 ∧ ∀ p, p < k → ∀ c : Nat, (c : Int) ∈ kids ts p → (aboveN ts k).getD c 0 = (aboveN ts k).getD p 0 + 1 := by
    intro k
    induction k with
    | zero =>
      intro _
      refine ⟨?_, fun p hp => by omega⟩
      simp [aboveN, List.getD_eq_getElem?_getD, List.getElem?_replicate]
      split <;> rfl
    | succ k ih =>
      intro hk
      obtain ⟨h0, h1⟩ := ih (by omega)
      have hget := aboveC_get k (kids ts k) (aboveN ts k) (fun c hc => by rw [aboveN_len]; exact hd k (by omega) c hc)
      refine ⟨?_, ?_⟩
      · rw [aboveN, hget, if_neg (fun hm => by have := hd k (by omega) _ hm; omega), h0]
      · intro p hp c hc
        have hpp : (aboveC k (kids ts k) (aboveN ts k)).getD p 0 = (aboveN ts k).getD p 0 := by
          rw [hget, if_neg (fun hm => by have := hd k (by omega) _ hm; omega)]
        rw [aboveN, hpp, hget]
        rcases Nat.lt_or_eq_of_le (Nat.lt_succ_iff.1 hp) with hp | rfl
        · rw [if_neg (fun hm => good_one hg hp (by omega) hc hm), h1 p hp c hc]
        · rw [if_pos hc]
  obtain ⟨h0, h1⟩ := inv ts.length (Nat.le_refl _)
  exact ⟨aboveN_len _ _, h0, h1⟩

section
variable {ts : List Nd} {d : List Nat} (hg : Good ts) (hd : Depths ts d)
include hd
/-- What is below a node stands deeper. -/
theorem depth_below (f : Nat) : ∀ n e, n < ts.length → ts.length ≤ n + f → Wt ts n = some e → ∀ j, n < j → j < e → d.getD n 0 < d.getD j 0 := by
  induction f with
  | zero => intro n e hn hf; omega
  | succ f ih =>
    intro n e hn hf h j h1 h2
    obtain ⟨q, k', f1, f2, f3, f4, f5, f6⟩ := kid_cover hn h h1 h2
    have hs := hd.step n hn q f1
    rcases Nat.lt_or_eq_of_le f5 with h5 | rfl
    · have := ih q k' f2 (by omega) f3 j h5 f6
      omega
    · omega
include hg
/-- What stands behind a node and all below it stands no deeper. -/
theorem depth_behind (n : Nat) : n < ts.length → ∀ e, Wt ts n = some e → e < ts.length → d.getD e 0 ≤ d.getD n 0 := by
  induction n using Nat.strongRecOn with
  | _ n ih =>
    intro hn e he hlt
    rcases Nat.eq_zero_or_pos n with rfl | hpos
    · have := hg.2; rw [he] at this; have := Option.some.inj this; omega
    · obtain ⟨p, hp, hm⟩ := good_parent hg hn hpos
      obtain ⟨ep, hep, a1, a2⟩ := good_wt hg (show p < ts.length by omega)
      have hs := hd.step p (by omega) n hm
      rcases chain_next _ _ _ (wt_kids (by omega) hep) n e hm he with rfl | h
      · have := ih p hp (by omega) e hep hlt
        omega
      · rw [hd.step p (by omega) e h, hs]; exact Nat.le_refl _
end

theorem deepC_ge {rec : Nat → Nat} (l : List Int) : ∀ d, d ≤ deepC rec l d ∧ ∀ c ∈ l, rec c.toNat ≤ deepC rec l d := by
  induction l with
  | nil => intro d; exact ⟨Nat.le_refl _, fun c hc => by cases hc⟩
  | cons a cs ih =>
    intro d
    have h := ih (if d < rec a.toNat then rec a.toNat else d)
    unfold deepC
    refine ⟨?_, fun c hc => ?_⟩
    · refine Nat.le_trans ?_ h.1; split <;> omega
    · rcases List.mem_cons.1 hc with rfl | hc
      · refine Nat.le_trans ?_ h.1; split <;> omega
      · exact h.2 c hc
theorem deepC_in {rec : Nat → Nat} (l : List Int) : ∀ d, deepC rec l d = d ∨ ∃ c ∈ l, deepC rec l d = rec c.toNat := by
  induction l with
  | nil => intro d; exact .inl rfl
  | cons a cs ih =>
    intro d
    unfold deepC
    rcases ih (if d < rec a.toNat then rec a.toNat else d) with h | ⟨c, hc, h⟩
    · rw [h]
      split
      · exact .inr ⟨a, List.mem_cons_self, rfl⟩
      · exact .inl rfl
    · exact .inr ⟨c, List.mem_cons_of_mem _ hc, h⟩
theorem deepF_depths {ts : List Nd} {d : List Nat} (hd : Depths ts d) (f : Nat) : ∀ n e, n < ts.length → ts.length ≤ n + f → Wt ts n = some e →
    (∀ j, n ≤ j → j < e → d.getD j 0 + 1 ≤ d.getD n 0 + deepF ts f n) ∧ ∃ j, n ≤ j ∧ j < e ∧ d.getD j 0 + 1 = d.getD n 0 + deepF ts f n := by
  induction f with
  | zero => intro n e hn hf; omega
  | succ f ih =>
    intro n e hn hf h
    have hen := Wt_le hn h
    have hge := deepC_ge (rec := deepF ts f) (kids ts n) 0
    have hin := deepC_in (rec := deepF ts f) (kids ts n) 0
    have hu : deepF ts (f + 1) n = deepC (deepF ts f) (kids ts n) 0 + 1 := rfl
    rw [hu]
    refine ⟨fun j h1 h2 => ?_, ?_⟩
    · rcases Nat.lt_or_eq_of_le h1 with h1 | rfl
      · obtain ⟨q, k', f1, f2, f3, f4, f5, f6⟩ := kid_cover hn h h1 h2
        have := (ih q k' f2 (by omega) f3).1 j f5 f6
        have hs := hd.step n hn q f1
        have := hge.2 _ f1
        rw [Int.toNat_natCast] at this
        omega
      · omega
    · rcases hin with h0 | ⟨c, hc, h0⟩
      · exact ⟨n, Nat.le_refl _, hen.1, by omega⟩
      · obtain ⟨q, k', rfl, f2, f3, f4, f5, f6⟩ := kid_mem hn h hc
        obtain ⟨j, g1, g2, g3⟩ := (ih q k' f2 (by omega) f3).2
        have hs := hd.step n hn q hc
        rw [Int.toNat_natCast] at h0
        exact ⟨j, by omega, by omega, by omega⟩
/-- How deep a tree is. -/
def deepN (ts : List Nd) : Nat := deepF ts ts.length 0
theorem deepN_depths {ts : List Nd} {d : List Nat} (hg : Good ts) (hd : Depths ts d) : (∀ j, j < ts.length → d.getD j 0 + 1 ≤ deepN ts) ∧ ∃ j, j < ts.length ∧ d.getD j 0 + 1 = deepN ts := by
  have h := deepF_depths hd ts.length 0 ts.length hg.1 (by omega) hg.2
  rw [hd.zero, Nat.zero_add] at h
  exact ⟨fun j hj => h.1 j (Nat.zero_le _) hj, by obtain ⟨j, _, h1, h2⟩ := h.2; exact ⟨j, h1, h2⟩⟩

/-- The code of a tree. -/
def chk (ts : List Nd) : Nat :=
  if ts.length = 0 then 30 else if 16384 < ts.length then 3
  else if ts.all (asksN ts) = true ∧ Wt ts 0 = some ts.length then (if 48 < deepN ts then 4 else 0) else 30
def mayN (ts : List Nd) : Bool := decide (chk ts = 0)
theorem may_parts {ts : List Nd} (h : mayN ts = true) : Good ts ∧ ts.length ≤ 16384 ∧ ts.all (asksN ts) = true ∧ deepN ts ≤ 48 := by
  unfold mayN chk at h
  rw [decide_eq_true_eq] at h
  split at h
  · cases h
  · split at h
    · cases h
    · split at h
      · rename_i h1 h2 h3
        split at h
        · cases h
        · exact ⟨⟨by omega, h3.2⟩, by omega, h3.1, by omega⟩
      · cases h
theorem may_of {ts : List Nd} (hg : Good ts) (_h1 : ts.length ≤ 16384) (h2 : ts.all (asksN ts) = true) (_h3 : deepN ts ≤ 48) : mayN ts = true := by
  unfold mayN chk
  have := hg.1
  rw [if_neg (by omega), if_neg (by omega), if_pos ⟨h2, hg.2⟩, if_neg (by omega)]; rfl
end Go.Proofs.YtoophdcagpfmpaaGreatDoor

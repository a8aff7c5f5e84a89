/- The parts of a tree: plain facts. -/
import Derived.Test.YtjefoojkgocinaaDoorTrJoin
namespace Go.Proofs.YtjefoojkgocinaaDoor
open Go.RowKit

theorem En_eq {ts : List Nd} {n e : Nat} (h : Wt ts n = some e) : En ts n = e := by unfold En; rw [h]; rfl
theorem subN_get {ts : List Nd} (hg : Good ts) {n i : Nat} (hn : n < ts.length) (hi : i < En ts n - n) : (subN ts n).getD i nd0 = shN (-(n : Int)) (ts.getD (n + i) nd0) := by
  obtain ⟨-, h1, h2⟩ := En_spec hg hn
  simp [subN, List.getD_eq_getElem?_getD, hi, show n + i < ts.length by omega]
theorem walk_sub {ts S : List Nd} {n e : Nat} (hS : S.length = e - n) (l : List Int) : ∀ m k, n ≤ m → walkC (Wt ts) ts.length l m = some k → k ≤ e →
    (∀ q q', m ≤ q → q < e → Wt ts q = some q' → Wt S (q - n) = some (q' - n)) → walkC (Wt S) S.length (l.map (· + -(n : Int))) (m - n) = some (k - n) := by
  induction l with
  | nil => intro m k _ h _ _; simp only [walkC, Option.some.injEq] at h; subst h; rfl
  | cons c cs ih =>
    intro m k hn h hk hq
    unfold walkC at h
    split at h
    · rename_i hc
      obtain ⟨m', h1, h2⟩ := Option.bind_eq_some_iff.1 h
      have hm' := Wt_le hc.2 h1
      have hk' := walkC_le (fun m k => wt_rec m k) cs m' k hm'.2 h2
      have h3 := hq m m' (Nat.le_refl _) (by omega) h1
      rw [List.map_cons]
      unfold walkC
      rw [if_pos ⟨by show c + -(n : Int) = _; have := hc.1; omega, by omega⟩, h3]
      exact ih m' k (by omega) h2 hk (fun q q' a b c => hq q q' (by omega) b c)
    · cases h
section
variable {ts : List Nd} (hg : Good ts) {n : Nat} (hn : n < ts.length)
include hg hn
theorem sub_kids {i : Nat} (hi : i < En ts n - n) : kids (subN ts n) i = (kids ts (n + i)).map (· + -(n : Int)) := by
  unfold kids
  rw [subN_get hg hn hi]; rfl
theorem wt_sub (d : Nat) : ∀ j, n ≤ j → j < En ts n → En ts n ≤ j + d → Wt (subN ts n) (j - n) = some (En ts j - n) := by
  obtain ⟨h1, h2, h3⟩ := En_spec hg hn
  have hl := subN_len hg hn
  induction d with
  | zero => intro j _ h5 h6; omega
  | succ d ih =>
    intro j h4 h5 h6
    have hj : j < ts.length := by omega
    obtain ⟨ej, hej, hle⟩ := wt_below ts.length n _ hn (by omega) h1 j h4 h5
    have hk := walk_sub (S := subN ts n) (n := n) (e := En ts n) hl (kids ts j) (j + 1) ej (by omega) (wt_kids hj hej) hle (fun q q' a b c => by
      have := ih q (by omega) b (by omega)
      rw [this, En_eq c])
    have hki := sub_kids hg hn (i := j - n) (by omega)
    rw [show n + (j - n) = j by omega] at hki
    rw [Wt_eq (by omega)]
    have hki' : ((subN ts n).getD (j - n) nd0).l = (kids ts j).map (· + -(n : Int)) := hki
    rw [hki', show j - n + 1 = j + 1 - n by omega, hk, En_eq hej]
theorem good_sub : Good (subN ts n) := by
  obtain ⟨h1, h2, h3⟩ := En_spec hg hn
  have hl := subN_len hg hn
  refine ⟨by omega, ?_⟩
  have := wt_sub hg hn ts.length n (Nat.le_refl _) h2 (by omega)
  rw [Nat.sub_self] at this
  rw [this, hl]
theorem asks_sub (hall : ts.all (asksN ts) = true) : (subN ts n).all (asksN (subN ts n)) = true := by
  obtain ⟨h1, h2, h3⟩ := En_spec hg hn
  have hl := subN_len hg hn
  rw [List.all_eq_true]
  intro x hx
  obtain ⟨i, hi, rfl⟩ := List.getElem_of_mem hx
  have hi' : i < En ts n - n := by omega
  have e0 : (subN ts n)[i] = (subN ts n).getD i nd0 := by simp [List.getD_eq_getElem?_getD, hi]
  have hs := good_sub hg hn
  have hkl := good_len hs (n := i) hi
  have hkd := good_down hs i hi
  have hki := sub_kids hg hn hi'
  have ha := List.all_eq_true.1 hall _ (getD_memN (ts := ts) (k := n + i) (by omega))
  obtain ⟨ej, hej, hle⟩ := wt_below ts.length n _ hn (by omega) h1 (n + i) (by omega) (by omega)
  rw [e0]
  unfold kids at hkl hkd hki
  rw [subN_get hg hn hi'] at hkl hkd hki ⊢
  unfold asksN at ha ⊢
  simp only [Bool.and_eq_true, decide_eq_true_eq, List.all_eq_true] at ha ⊢
  obtain ⟨⟨⟨a1, a2⟩, a3⟩, a4⟩ := ha
  refine ⟨⟨⟨a1, by omega⟩, ?_⟩, ?_⟩
  · intro c hc
    have := hkd c hc
    unfold inB
    simp only [Bool.and_eq_true, decide_eq_true_eq]
    omega
  · show askB (ts.getD (n + i) nd0).k (ts.getD (n + i) nd0).n (ts.getD (n + i) nd0).s (((ts.getD (n + i) nd0).l.map (· + -(n : Int))).map (kindOf (subN ts n))) = true
    rw [List.map_map, ← a4]
    congr 1
    refine List.map_congr_left (fun c hc => ?_)
    obtain ⟨q, k', rfl, f2, f3, f4, f5, f6⟩ := kid_mem (show n + i < ts.length by omega) hej hc
    show ((subN ts n).getD ((q : Int) + -(n : Int)).toNat nd0).k = (ts.getD ((q : Int)).toNat nd0).k
    rw [show ((q : Int) + -(n : Int)).toNat = q - n by omega, subN_get hg hn (by omega), show n + (q - n) = q by omega, Int.toNat_natCast]
    rfl
theorem deep_sub : deepN (subN ts n) ≤ deepN ts := by
  obtain ⟨h1, h2, h3⟩ := En_spec hg hn
  have hl := subN_len hg hn
  have hs := good_sub hg hn
  have hd := depths_above hg
  have hds := depths_above hs
  have key : ∀ j, j < En ts n - n → (aboveL (subN ts n)).getD j 0 + (aboveL ts).getD n 0 = (aboveL ts).getD (n + j) 0 := by
    intro j
    induction j using Nat.strongRecOn with
    | _ j ih =>
      intro hj
      rcases Nat.eq_zero_or_pos j with rfl | h0
      · rw [hds.zero, Nat.zero_add]; rfl
      · obtain ⟨p, hp, hm⟩ := good_parent hs (j := j) (by omega) h0
        have hm0 := hm
        rw [sub_kids hg hn (show p < En ts n - n by omega)] at hm
        obtain ⟨c, hc, hce⟩ := List.mem_map.1 hm
        have : c = ((n + j : Nat) : Int) := by omega
        subst this
        rw [hds.step p (by omega) j hm0, hd.step (n + p) (by omega) (n + j) hc, ← ih p hp (by omega)]
        omega
  obtain ⟨j, hj, he⟩ := (deepN_depths hs hds).2
  have h4 := (deepN_depths hg hd).1 (n + j) (by omega)
  have := key j (by omega)
  omega
end
theorem may_sub {ts : List Nd} (h : mayN ts = true) {n : Nat} (hn : n < ts.length) : mayN (subN ts n) = true := by
  obtain ⟨hg, h1, h2, h3⟩ := may_parts h
  have := deep_sub hg hn
  have := En_spec hg hn
  exact may_of (good_sub hg hn) (by rw [subN_len hg hn]; omega) (asks_sub hg hn h2) (by omega)
theorem shN_back (q : Nat) (x : Nd) : shN (q : Int) (shN (-(q : Int)) x) = x := by
  obtain ⟨k, at_, n, s, l⟩ := x
  simp only [shN, List.map_map, Nd.mk.injEq, true_and]
  have : ((fun x => x + (q : Int)) ∘ fun x => x + -(q : Int)) = id := by funext y; simp; omega
  rw [this, List.map_id]
theorem subT_ok' {ts : List Nd} {n : Int} (hok : ∀ x ∈ ts, NdOk x) : ∀ x ∈ subT ts n, NdOk x := by
  unfold subT
  split
  · rename_i h
    intro x hx
    obtain ⟨y, hy, rfl⟩ := List.mem_map.1 hx
    have hyo := hok y (mem_part hy)
    refine ⟨hyo.k, hyo.at1, hyo.at2, hyo.n1, hyo.n2, hyo.s, fun c hc => ?_⟩
    obtain ⟨c0, hc0, rfl⟩ := List.mem_map.1 hc
    unfold subOk at h
    simp only [Bool.and_eq_true, decide_eq_true_eq] at h
    obtain ⟨hg, hl, -, -⟩ := may_parts h.1.1
    obtain ⟨i, h1, h2, rfl⟩ := kids_of_mem hy
    have := good_down hg i h2 c0 hc0
    omega
  · intro x hx; cases hx
/-- A tree's parts, below its root. -/
def partsN (ts : List Nd) : List (List Nd) := (kids ts 0).map (fun c => subN ts c.toNat)
theorem join_fold {ts : List Nd} (r : Nd) (l : List Int) : ∀ m k pre, 1 ≤ m → m ≤ ts.length → walkC (Wt ts) ts.length l m = some k →
    (l.map (fun c => subN ts c.toNat)).foldl addT ({ r with l := pre } :: (ts.drop 1).take (m - 1)) = { r with l := pre ++ l } :: (ts.drop 1).take (k - 1) := by
  induction l with
  | nil => intro m k pre _ _ h; simp only [walkC, Option.some.injEq] at h; subst h; simp
  | cons c cs ih =>
    intro m k pre hm hmN h
    unfold walkC at h
    split at h
    · rename_i hc
      obtain ⟨m', h1, h2⟩ := Option.bind_eq_some_iff.1 h
      have hm' := Wt_le hc.2 h1
      have ec : c.toNat = m := by have := hc.1; omega
      have hrl : ((ts.drop 1).take (m - 1)).length = m - 1 := by simp; omega
      have hback : (subN ts m).map (shN (m : Int)) = (ts.drop m).take (m' - m) := by
        unfold subN
        rw [List.map_map, En_eq h1]
        have : (shN (m : Int) ∘ shN (-(m : Int))) = id := by funext y; exact shN_back m y
        rw [this, List.map_id]
      rw [List.map_cons, List.foldl_cons, ec]
      have e : addT ({ r with l := pre } :: (ts.drop 1).take (m - 1)) (subN ts m) = { r with l := pre ++ [c] } :: (ts.drop 1).take (m' - 1) := by
        simp only [addT]
        rw [hrl, show m - 1 + 1 = m by omega, hback, hc.1]
        congr 1
        rw [show m' - 1 = (m - 1) + (m' - m) by omega, List.take_add, List.drop_drop, show 1 + (m - 1) = m by omega]
      rw [e, ih m' k (pre ++ [c]) (by omega) hm'.2 h2, List.append_assoc]; rfl
    · cases h
theorem join_parts {ts : List Nd} (hg : Good ts) : joinN (ts.getD 0 nd0) (partsN ts) = ts := by
  have h0 := hg.1
  have hk := wt_kids hg.1 hg.2
  have := join_fold (ts.getD 0 nd0) (kids ts 0) 1 ts.length [] (Nat.le_refl _) (by omega) hk
  rw [Nat.sub_self, List.take_zero] at this
  unfold joinN partsN
  rw [this]
  cases ts with
  | nil => cases h0
  | cons r rest =>
    rw [List.nil_append]
    simp only [List.drop_succ_cons, List.drop_zero, List.length_cons, Nat.add_sub_cancel]
    rw [List.take_of_length_le (Nat.le_refl _)]
    rfl
theorem parts_may {ts : List Nd} (h : mayN ts = true) : ∀ c ∈ partsN ts, mayN c = true := by
  intro c hc
  obtain ⟨q, hq, rfl⟩ := List.mem_map.1 hc
  have hg := (may_parts h).1
  have := good_down hg 0 hg.1 q hq
  exact may_sub h (by omega)
theorem joinE_parts {ts : List Nd} (h : mayN ts = true) : joinE (ts.getD 0 nd0) (partsN ts) = 0 := by
  obtain ⟨hg, h1, -, -⟩ := may_parts h
  have hl := joinN_len (ts.getD 0 nd0) (partsN ts)
  rw [join_parts hg] at hl
  unfold joinE
  rw [if_pos (List.all_eq_true.2 (parts_may h)), if_neg (by omega), join_parts hg]
  exact of_decide_eq_true h
theorem joinT_parts {ts : List Nd} (h : mayN ts = true) : joinT (ts.getD 0 nd0) (partsN ts) = ts := by
  unfold joinT
  rw [if_pos (joinE_parts h), join_parts (may_parts h).1]
theorem sub_zero {ts : List Nd} (hg : Good ts) : subN ts 0 = ts := by
  unfold subN
  rw [En_eq hg.2, List.drop_zero, Nat.sub_zero, List.take_of_length_le (Nat.le_refl _)]
  have : shN (-((0 : Nat) : Int)) = id := by
    funext x
    obtain ⟨k, at_, n, s, l⟩ := x
    simp [shN]
  rw [this, List.map_id]
theorem subT_of {ts : List Nd} (h : mayN ts = true) {n : Int} (h0 : 0 ≤ n) (h1 : n < (ts.length : Int)) : subT ts n = subN ts n.toNat ∧ subE ts n = 0 := by
  unfold subT subE subOk
  rw [h]
  simp [h0, h1]
theorem subT_not {ts : List Nd} {n : Int} (h : n < 0 ∨ (ts.length : Int) ≤ n) : subT ts n = [] ∧ subE ts n = 2 := by
  have : subOk ts n = false := by
    unfold subOk
    rcases h with h | h
    · simp [show ¬ 0 ≤ n by omega]
    · simp [show ¬ n < (ts.length : Int) by omega]
  unfold subT subE
  rw [this]
  exact ⟨rfl, rfl⟩
theorem parts_len (ts : List Nd) : (partsN ts).length = (kids ts 0).length := by simp [partsN]
theorem parts_get {ts : List Nd} (h : mayN ts = true) {i : Nat} (hi : i < (kids ts 0).length) :
    0 ≤ (kids ts 0).getD i 0 ∧ (kids ts 0).getD i 0 < (ts.length : Int) ∧ subT ts ((kids ts 0).getD i 0) = (partsN ts).getD i [] ∧ subE ts ((kids ts 0).getD i 0) = 0 ∧ mayN ((partsN ts).getD i []) = true := by
  have hg := (may_parts h).1
  have hm := getD_memI hi
  have hd := good_down hg 0 hg.1 _ hm
  obtain ⟨h1, h2⟩ := subT_of h (n := (kids ts 0).getD i 0) (by omega) (by omega)
  have hp : (partsN ts).getD i [] = subN ts ((kids ts 0).getD i 0).toNat := by
    simp [partsN, List.getD_eq_getElem?_getD, hi]
  refine ⟨by omega, by omega, by rw [h1, hp], h2, ?_⟩
  rw [hp]
  exact may_sub h (by omega)
theorem parts_ok {ts : List Nd} (h : mayN ts = true) (hok : ∀ x ∈ ts, NdOk x) : NdOks (partsN ts) := by
  intro c hc
  obtain ⟨i, hi, rfl⟩ := List.getElem_of_mem hc
  have hi' : i < (kids ts 0).length := by rw [← parts_len]; exact hi
  have := parts_get h hi'
  have e : (partsN ts)[i] = (partsN ts).getD i [] := by simp [List.getD_eq_getElem?_getD, hi]
  rw [e, ← this.2.2.1]
  exact subT_ok' hok
theorem parts_size {ts : List Nd} (h : mayN ts = true) : ∀ c ∈ partsN ts, c.length ≤ 16384 := fun c hc => (may_parts (parts_may h c hc)).2.1
end Go.Proofs.YtjefoojkgocinaaDoor

/- loanwordref02's Text, May, join: the same as the program's. Plain. -/
import Derived.Test.YtcbifoimfhfccaaGreatDoorLexV
namespace Go.Proofs.YtcbifoimfhfccaaGreatDoor

/-- What loanwordref02.Text asks of a token. -/
def rokB (t : Tk) : Bool := decide (0 ≤ t.at_) && (decide ((lexS (textS t)).2.2 = 0) && (eqK fullK (lexS (textS t)).1 [{ t with at_ := 0 }] && decide ((oneS (textS t) 0).2.1 = (textS t).size)))
theorem sameK_trans {x t u : Tk} (h : sameK t u = true) (h2 : sameK x t = true) : sameK x u = true := by
  obtain ⟨e1, e2, e3⟩ := sameK_iff.1 h
  obtain ⟨f1, f2, f3⟩ := sameK_iff.1 h2
  exact sameK_iff.2 ⟨f1.trans e1, f2.trans e2, f3.trans e3⟩
theorem like_same {x : ByteArray} {t u : Tk} (h : sameK t u = true) (h2 : likeB x [t] = true) : likeB x [u] = true := by
  unfold likeB at h2 ⊢
  rw [Bool.and_eq_true] at h2 ⊢
  refine ⟨h2.1, ?_⟩
  have h3 := h2.2
  generalize (lexS x).1 = l at h3
  match l, h3 with
  | [], h3 => exact absurd (eqK_iff.1 h3).1 (by simp)
  | y :: r, h3 =>
    obtain ⟨h4, h5⟩ := eqK_cons.1 h3
    exact eqK_cons.2 ⟨sameK_trans h h4, h5⟩
theorem may_same {t u : Tk} (h : sameK t u = true) (hu : 0 ≤ u.at_) (ht : mayS t = true) : mayS u = true := by
  unfold mayS at ht ⊢
  rw [← textS_same h]
  simp only [Bool.and_eq_true, Bool.not_eq_true', decide_eq_true_eq] at ht ⊢
  obtain ⟨⟨⟨⟨⟨h1, h2⟩, h3⟩, h4⟩, h5⟩, h6⟩ := ht
  exact ⟨⟨⟨⟨⟨hu, h2⟩, like_same h h3⟩, h4⟩, h5⟩, h6⟩
theorem sameK_symm {x y : Tk} (h : sameK x y = true) : sameK y x = true := by
  obtain ⟨h1, h2, h3⟩ := sameK_iff.1 h
  exact sameK_iff.2 ⟨h1.symm, h2.symm, h3.symm⟩
theorem may_lex {t : Tk} (h : mayS t = true) : lexS (textS t) = ([{ t with at_ := 0 }], 0, 0) ∧ (oneS (textS t) 0).2.1 = (textS t).size := by
  have hz := may_size h
  have ho := may_own h
  refine ⟨?_, ?_⟩
  · rw [lexS_small (by omega), lexG_tok ho, lexG_end (by omega)]
    rfl
  · rw [ho.one, Nat.zero_add]
theorem rok_may (t : Tk) : rokB t = mayS t := by
  cases h : mayS t
  · cases hr : rokB t
    · rfl
    · exfalso
      unfold rokB at hr
      simp only [Bool.and_eq_true, decide_eq_true_eq] at hr
      obtain ⟨h1, h2, h3, h4⟩ := hr
      have h3 := eqK_full.1 h3
      obtain ⟨hz, hg⟩ := lexS_ok h2
      have hc : Chain (textS t) 0 (lexS (textS t)).1 := by
        rw [hg] at h2 ⊢
        exact chain_of _ _ 0 h2
      rw [h3] at hc
      obtain ⟨j, n, -, ht, -⟩ := hc
      have hj : j = 0 := by have := ht.place; simp only at this; omega
      subst hj
      have hm := tok_may ht
      have := may_same (u := t) (sameK_symm (sameK_symm (sameK_at t 0))) h1 hm
      rw [h] at this
      cases this
  · unfold rokB
    obtain ⟨h1, h2⟩ := may_lex h
    rw [h1, h2]
    unfold mayS at h
    simp only [Bool.and_eq_true, decide_eq_true_eq] at h
    rw [decide_eq_true h.1.1.1.1.1, eqK_full.2 rfl]
    simp
theorem tok_kind {s : ByteArray} {i : Nat} {t : Tk} {n : Nat} (h : TokAt s i t n) : 1 ≤ t.k ∧ t.k ≤ 6 := by
  cases oneC_of h.one with
  | name h1 h2 h3 => subst h3; simp only; split <;> (try split) <;> omega
  | num h1 h2 r h3 h4 => subst h4; simp
  | life h1 h2 h3 h4 h5 h6 => subst h6; simp
  | sign h1 h2 h3 h4 h5 h6 => subst h6; simp
/-- loanwordref02.May: the place, the kind, and then the text of what is without a place. -/
def rmayB (t : Tk) : Bool := decide (0 ≤ t.at_) && (decide (1 ≤ t.k) && (decide (t.k ≤ 6) && mayS { t with at_ := 0 }))
theorem rmay_may (t : Tk) : rmayB t = mayS t := by
  cases h : mayS t
  · cases hr : rmayB t
    · rfl
    · unfold rmayB at hr
      simp only [Bool.and_eq_true, decide_eq_true_eq] at hr
      obtain ⟨h1, -, -, h4⟩ := hr
      have := may_same (sameK_at t 0) h1 h4
      rw [h] at this; cases this
  · have hk := tok_kind (may_own h)
    have h0 := may_same (sameK_symm (sameK_at t 0)) (show (0 : Int) ≤ 0 by omega) h
    unfold rmayB
    unfold mayS at h
    simp only [Bool.and_eq_true, decide_eq_true_eq] at h
    simp only at hk
    rw [h0, decide_eq_true h.1.1.1.1.1, decide_eq_true hk.1, decide_eq_true hk.2]
    rfl
/-- loanwordref02.join: a text that is too long is laid no more. -/
def rstep (ap : Tk → Tk → Bool) (p : Option Tk) (t : Tk) (b : ByteArray) : ByteArray := if (sepF ap p t b).size ≤ 65536 then sepF ap p t b ++ textS t else sepF ap p t b
def rcat (ap : Tk → Tk → Bool) : List Tk → Option Tk → ByteArray → ByteArray
  | [], _, b => b
  | t :: ts, p, b => rcat ap ts (some t) (rstep ap p t b)
theorem sep_size {ap : Tk → Tk → Bool} {p : Option Tk} {t : Tk} {b b' : ByteArray} (h : 65536 < b.size) : 65536 < (sepF ap p t b).size := by have := (sepF_size ap p t b).1; omega
theorem rcat_size (ap : Tk → Tk → Bool) : ∀ ts p b, b.size ≤ (rcat ap ts p b).size := by
  intro ts
  induction ts with
  | nil => intro p b; exact Nat.le_refl _
  | cons t ts ih =>
    intro p b
    have h1 := ih (some t) (rstep ap p t b)
    have h2 := (sepF_size ap p t b).1
    have h3 : (sepF ap p t b).size ≤ (rstep ap p t b).size := by
      unfold rstep
      split
      · rw [ByteArray.size_append]; omega
      · exact Nat.le_refl _
    show b.size ≤ (rcat ap ts (some t) (rstep ap p t b)).size
    omega
theorem rcat_cat (ap : Tk → Tk → Bool) : ∀ ts p b, (if 65536 < (rcat ap ts p b).size then (ByteArray.empty, 3) else (rcat ap ts p b, 0)) = (if 65536 < (catF ap ts p b).size then (ByteArray.empty, 3) else (catF ap ts p b, 0)) := by
  intro ts
  induction ts with
  | nil => intro p b; rfl
  | cons t ts ih =>
    intro p b
    show (if 65536 < (rcat ap ts (some t) (rstep ap p t b)).size then (ByteArray.empty, 3) else (rcat ap ts (some t) (rstep ap p t b), 0)) = _
    by_cases h : (sepF ap p t b).size ≤ 65536
    · have e : rstep ap p t b = sepF ap p t b ++ textS t := by unfold rstep; rw [if_pos h]
      rw [e, ih]
      rfl
    · have e : rstep ap p t b = sepF ap p t b := by unfold rstep; rw [if_neg h]
      have h1 := rcat_size ap ts (some t) (sepF ap p t b)
      have h2 : (sepF ap p t b ++ textS t).size ≤ (catF ap (t :: ts) p b).size := catF_size ap ts (some t) (sepF ap p t b ++ textS t)
      rw [ByteArray.size_append] at h2
      rw [e, if_pos (by omega), if_pos (by omega)]
theorem rcat_le (ap : Tk → Tk → Bool) : ∀ ts p b, (∀ t ∈ ts, (textS t).size ≤ 64) → (rcat ap ts p b).size ≤ b.size + 65 * ts.length := by
  intro ts
  induction ts with
  | nil => intro p b _; simp [rcat]
  | cons t ts ih =>
    intro p b h
    have h1 := ih (some t) (rstep ap p t b) (fun x hx => h x (List.mem_cons_of_mem _ hx))
    have h2 := (sepF_size ap p t b).2
    have h3 := h t (List.mem_cons_self ..)
    have h4 : (rstep ap p t b).size ≤ b.size + 65 := by
      unfold rstep
      split
      · rw [ByteArray.size_append]; omega
      · omega
    show (rcat ap ts (some t) (rstep ap p t b)).size ≤ _
    rw [List.length_cons]
    omega
theorem join_ref (ap : Tk → Tk → Bool) (ts : List Tk) (h : ts.all mayS = true) : joinS ap ts = if 65536 < (rcat ap ts none ByteArray.empty).size then (ByteArray.empty, 3) else (rcat ap ts none ByteArray.empty, 0) := by
  unfold joinS
  rw [if_pos h, joinF_cat _ _ _ _ (by decide), rcat_cat]
theorem rcat_snoc (ap : Tk → Tk → Bool) : ∀ ts p b t, rcat ap (ts ++ [t]) p b = rstep ap (match ts.getLast? with | some q => some q | none => p) t (rcat ap ts p b) := by
  intro ts
  induction ts with
  | nil => intro p b t; rfl
  | cons x ts ih =>
    intro p b t
    show rcat ap (ts ++ [t]) (some x) (rstep ap p x b) = _
    rw [ih]
    show _ = rstep ap _ t (rcat ap ts (some x) (rstep ap p x b))
    cases ts with
    | nil => rfl
    | cons y ts => rw [List.getLast?_cons_cons]; simp [List.getLast?_cons]
end Go.Proofs.YtcbifoimfhfccaaGreatDoor

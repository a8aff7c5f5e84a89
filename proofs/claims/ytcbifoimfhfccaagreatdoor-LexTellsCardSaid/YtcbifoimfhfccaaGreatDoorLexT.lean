/- Tokens are local: a token that stands in a text stands in each text that has its bytes, if what comes behind does not make it longer. Plain. -/
import Derived.Test.YtcbifoimfhfccaaGreatDoorLexS
namespace Go.Proofs.YtcbifoimfhfccaaGreatDoor

theorem blank_not_row {c : Nat} (h : blankB c = true) : rowB c = false := by
  unfold blankB at h
  simp only [Bool.or_eq_true, decide_eq_true_eq] at h
  unfold rowB smallB greatB digitB
  simp
  omega
theorem blank_not_two {a c : Nat} (h : blankB c = true) : twoB a c = false := by
  unfold blankB at h
  simp only [Bool.or_eq_true, decide_eq_true_eq] at h
  unfold twoB
  simp
  omega
theorem small_not_digit {c : Nat} (h : smallB c = true) : digitB c = false := by
  unfold smallB at h; unfold digitB
  simp only [Bool.and_eq_true, decide_eq_true_eq] at h
  simp; omega
/-- What a token's taking is, case by case. -/
inductive OneC (s : ByteArray) (i : Nat) (t : Tk) (n : Nat) : Prop where
  | name (h1 : (smallB (byteAt s i) || greatB (byteAt s i)) = true) (h2 : nameE s i (greatB (byteAt s i)) = (i + n, true)) (h3 : t = ⟨if wordB (s.extract i (i + n)) = true then 1 else if greatB (byteAt s i) = true then 3 else 2, i, 0, s.extract i (i + n)⟩)
  | num (h1 : (smallB (byteAt s i) || greatB (byteAt s i)) = false) (h2 : digitB (byteAt s i) = true) (r : Nat) (h3 : numE s i = (i + n, r, true)) (h4 : t = ⟨5, i, r, ByteArray.empty⟩)
  | life (h1 : byteAt s i = 39) (h2 : i + 1 < s.size) (h3 : smallB (byteAt s (i + 1)) = true) (h4 : nameE s (i + 1) false = (i + n, true)) (h5 : wordB (s.extract (i + 1) (i + n)) = false) (h6 : t = ⟨4, i, 0, s.extract (i + 1) (i + n)⟩)
  | sign (h1 : (smallB (byteAt s i) || greatB (byteAt s i)) = false) (h2 : digitB (byteAt s i) = false) (h3 : byteAt s i ≠ 39) (h4 : signL s i = n) (h5 : n ≠ 0) (h6 : t = ⟨6, i, 0, s.extract i (i + n)⟩)
theorem oneC_of {s : ByteArray} {i : Nat} {t : Tk} {n : Nat} (h : oneS s i = (t, i + n, true)) : OneC s i t n := by
  unfold oneS at h
  simp only at h
  by_cases h1 : (smallB (byteAt s i) || greatB (byteAt s i)) = true
  · rw [if_pos h1] at h
    by_cases h2 : (nameE s i (greatB (byteAt s i))).2 = true
    · rw [if_pos h2] at h
      have e1 := congrArg (fun x => x.2.1) h
      have e0 := congrArg (fun x => x.1) h
      simp only at e1 e0
      rw [e1] at e0
      exact .name h1 (by rw [← e1, ← h2]) e0.symm
    · rw [if_neg h2] at h
      have := congrArg (fun x => x.2.2) h
      cases this
  · rw [if_neg h1] at h
    have h1' : (smallB (byteAt s i) || greatB (byteAt s i)) = false := by simpa using h1
    by_cases h2 : digitB (byteAt s i) = true
    · rw [if_pos h2] at h
      by_cases h3 : (numE s i).2.2 = true
      · rw [if_pos h3] at h
        have e1 := congrArg (fun x => x.2.1) h
        have e0 := congrArg (fun x => x.1) h
        simp only at e1 e0
        exact .num h1' h2 (numE s i).2.1 (by rw [← e1, ← h3]) e0.symm
      · rw [if_neg h3] at h
        have := congrArg (fun x => x.2.2) h
        cases this
    · rw [if_neg h2] at h
      have h2' : digitB (byteAt s i) = false := by simpa using h2
      by_cases h3 : byteAt s i = 39
      · rw [if_pos h3] at h
        by_cases h4 : i + 1 < s.size ∧ smallB (byteAt s (i + 1)) = true
        · rw [if_pos h4] at h
          by_cases h5 : ((nameE s (i + 1) false).2 && !wordB (s.extract (i + 1) (nameE s (i + 1) false).1)) = true
          · rw [if_pos h5] at h
            have e1 := congrArg (fun x => x.2.1) h
            have e0 := congrArg (fun x => x.1) h
            simp only at e1 e0
            rw [e1] at e0 h5
            simp only [Bool.and_eq_true, Bool.not_eq_true'] at h5
            exact .life h3 h4.1 h4.2 (by rw [← e1, ← h5.1]) h5.2 e0.symm
          · rw [if_neg h5] at h
            have := congrArg (fun x => x.2.2) h
            cases this
        · rw [if_neg h4] at h
          have := congrArg (fun x => x.2.2) h
          cases this
      · rw [if_neg h3] at h
        by_cases h4 : signL s i = 0
        · rw [if_pos h4] at h
          have := congrArg (fun x => x.2.2) h
          cases this
        · rw [if_neg h4] at h
          have e1 := congrArg (fun x => x.2.1) h
          have e0 := congrArg (fun x => x.1) h
          simp only at e1 e0
          rw [e1] at e0
          exact .sign h1' h2' h3 (by omega) (by omega) e0.symm
theorem oneS_of {s : ByteArray} {i : Nat} {t : Tk} {n : Nat} (h : OneC s i t n) : oneS s i = (t, i + n, true) := by
  unfold oneS
  simp only
  cases h with
  | name h1 h2 h3 =>
    rw [if_pos h1, h2, if_pos rfl, h3]
  | num h1 h2 r h3 h4 =>
    rw [h1, if_neg (by decide), if_pos h2, h3, if_pos rfl, h4]
  | life h1 h2 h3 h4 h5 h6 =>
    have e : (smallB (byteAt s i) || greatB (byteAt s i)) = false ∧ digitB (byteAt s i) = false := by rw [h1]; decide
    rw [e.1, e.2, if_neg (by decide), if_neg (by decide), if_pos h1, if_pos ⟨h2, h3⟩, h4, if_pos (by rw [h5]; rfl), h6]
  | sign h1 h2 h3 h4 h5 h6 =>
    rw [h1, h2, if_neg (by decide), if_neg (by decide), if_neg h3, h4, if_neg h5, h6]
/-- At a place of a text stands a token of n bytes. -/
structure TokAt (s : ByteArray) (i : Nat) (t : Tk) (n : Nat) : Prop where
  one : oneS s i = (t, i + n, true)
  comm : commB s i = false
  blank : blankB (byteAt s i) = false
  lt : i < s.size
theorem TokAt.pos {s : ByteArray} {i : Nat} {t : Tk} {n : Nat} (h : TokAt s i t n) : 0 < n ∧ i + n ≤ s.size := by
  have := oneS_lt h.lt (by rw [h.one])
  rw [h.one] at this
  simp only at this
  omega
theorem TokAt.place {s : ByteArray} {i : Nat} {t : Tk} {n : Nat} (h : TokAt s i t n) : t.at_ = i := by
  cases oneC_of h.one with
  | name h1 h2 h3 => rw [h3]
  | num h1 h2 r h3 h4 => rw [h4]
  | life h1 h2 h3 h4 h5 h6 => rw [h6]
  | sign h1 h2 h3 h4 h5 h6 => rw [h6]
/-- What comes behind a place: nothing, a blank, or the byte that came there. -/
def Look (s : ByteArray) (i n : Nat) (t : ByteArray) (j : Nat) : Prop := j + n = t.size ∨ blankB (byteAt t (j + n)) = true ∨ i + n < s.size ∧ byteAt t (j + n) = byteAt s (i + n)
theorem look_row {s t : ByteArray} {i j n : Nat} (hl : Look s i n t j) (hs : i + n = s.size ∨ i + n < s.size ∧ rowB (byteAt s (i + n)) = false) : j + n = t.size ∨ rowB (byteAt t (j + n)) = false := by
  rcases hl with h | h | ⟨h1, h2⟩
  · exact Or.inl h
  · exact Or.inr (blank_not_row h)
  · rcases hs with h | h
    · omega
    · exact Or.inr (by rw [h2]; exact h.2)
theorem commB_iff {s : ByteArray} {i : Nat} : commB s i = true ↔ i + 1 < s.size ∧ byteAt s i = 47 ∧ byteAt s (i + 1) = 47 := by
  unfold commB
  simp only [Bool.and_eq_true, decide_eq_true_eq]
  exact ⟨fun ⟨⟨a, b⟩, c⟩ => ⟨a, b, c⟩, fun ⟨a, b, c⟩ => ⟨⟨a, b⟩, c⟩⟩
theorem commB_no {s : ByteArray} {i : Nat} (h : commB s i = false) : ¬ (i + 1 < s.size ∧ byteAt s i = 47 ∧ byteAt s (i + 1) = 47) := fun h2 => by rw [commB_iff.2 h2] at h; cases h
theorem commB_mk {s : ByteArray} {i : Nat} (h : ¬ (i + 1 < s.size ∧ byteAt s i = 47 ∧ byteAt s (i + 1) = 47)) : commB s i = false := by
  cases hc : commB s i
  · rfl
  · exact absurd (commB_iff.1 hc) h
theorem TokAt.move {s : ByteArray} {i : Nat} {x : Tk} {n : Nat} (h : TokAt s i x n) {t : ByteArray} {j : Nat} (ha : Ag s i t j n) (hl : Look s i n t j) : TokAt t j { x with at_ := (j : Int) } n := by
  have hp := h.pos
  have hr := ha.r
  have e0 := ha.eq 0 hp.1
  rw [Nat.add_zero, Nat.add_zero] at e0
  have hx := ha.ext
  refine ⟨oneS_of ?_, commB_mk ?_, by rw [← e0]; exact h.blank, by omega⟩
  · cases oneC_of h.one with
    | name h1 h2 h3 =>
      refine .name (by rw [← e0]; exact h1) (by rw [← e0]; exact nameE_cut ha (look_row hl (nameE_stop (by omega) h2)) h2) ?_
      rw [h3, ← hx, ← e0]
    | num h1 h2 r h3 h4 =>
      obtain ⟨r', h5, h6⟩ := numE_cut ha (look_row hl (numE_stop (by omega) h3)) h3
      rw [h6 rfl] at h5
      exact .num (by rw [← e0]; exact h1) (by rw [← e0]; exact h2) r h5 (by rw [h4])
    | life h1 h2 h3 h4 h5 h6 =>
      have hn : 1 < n := by
        have := nameE_lt (g := false) h2 (row_of_small h3) (by rw [small_not_great h3]; rfl)
        rw [h4] at this
        simp only at this
        omega
      have ha1 := ha.shift 1 (by omega)
      have e1 := ha.eq 1 hn
      have hx1 := ha1.ext
      rw [show i + 1 + (n - 1) = i + n by omega, show j + 1 + (n - 1) = j + n by omega] at hx1
      refine .life (by rw [← e0]; exact h1) (by omega) (by rw [← e1]; exact h3) ?_ (by rw [← hx1]; exact h5) (by rw [h6, ← hx1])
      have := nameE_cut (g := false) (q := true) ha1 (by rw [show j + 1 + (n - 1) = j + n by omega]; exact look_row hl (nameE_stop (by omega) h4)) (by rw [h4]; congr 1; omega)
      rw [this]
      congr 1
      omega
    | sign h1 h2 h3 h4 h5 h6 =>
      refine .sign (by rw [← e0]; exact h1) (by rw [← e0]; exact h2) (by rw [← e0]; exact h3) ?_ h5 (by rw [h6, ← hx])
      unfold signL at h4 ⊢
      by_cases c1 : i + 1 < s.size ∧ twoB (byteAt s i) (byteAt s (i + 1)) = true
      · rw [if_pos c1] at h4
        rw [if_pos ⟨by omega, by rw [← e0, ← ha.eq 1 (by omega)]; exact c1.2⟩]
        exact h4
      · rw [if_neg c1] at h4
        by_cases c2 : i < s.size ∧ ones.contains (byteAt s i) = true
        · rw [if_pos c2] at h4
          subst h4
          rw [if_neg, if_pos ⟨by omega, by rw [← e0]; exact c2.2⟩]
          rintro ⟨d1, d2⟩
          rcases hl with h | h | ⟨h7, h8⟩
          · omega
          · rw [blank_not_two h] at d2; cases d2
          · rw [h8, ← e0] at d2; exact c1 ⟨h7, d2⟩
        · rw [if_neg c2] at h4; exact absurd h4.symm h5
  · rintro ⟨d1, d2, d3⟩
    have hc := commB_no h.comm
    rw [← e0] at d2
    by_cases hn : 1 < n
    · rw [← ha.eq 1 hn] at d3
      exact hc ⟨by omega, d2, d3⟩
    · obtain rfl : n = 1 := by omega
      rcases hl with h7 | h7 | ⟨h7, h8⟩
      · omega
      · rw [d3] at h7; exact absurd h7 (by decide)
      · rw [h8] at d3; exact hc ⟨h7, d2, d3⟩
theorem lexG_tok {s : ByteArray} {i : Nat} {x : Tk} {n : Nat} (h : TokAt s i x n) (l : List Tk) : lexG s i l = lexG s (i + n) (l ++ [x]) := by
  rw [lexG_one h.lt h.blank h.comm (by rw [h.one]), h.one]
theorem lexF_acc (s : ByteArray) : ∀ f i l, lexF s f i l = if (lexF s f i []).2.2 = 0 then (l ++ (lexF s f i []).1, (lexF s f i []).2) else lexF s f i [] := by
  intro f
  induction f with
  | zero => intro i l; unfold lexF; rw [if_pos rfl, List.append_nil]
  | succ f ih =>
    intro i l
    unfold lexF
    by_cases h : i < s.size
    · rw [if_pos h, if_pos h]
      by_cases hb : blankB (byteAt s i) = true
      · rw [if_pos hb, if_pos hb]; exact ih _ _
      · rw [if_neg hb, if_neg hb]
        by_cases hc : commB s i = true
        · rw [if_pos hc, if_pos hc]; exact ih _ _
        · rw [if_neg hc, if_neg hc]
          by_cases ho : (oneS s i).2.2 = true
          · rw [if_pos ho, if_pos ho, ih _ (l ++ [_]), ih _ ([] ++ [_])]
            by_cases hz : (lexF s f (oneS s i).2.1 []).2.2 = 0
            · rw [if_pos hz, if_pos hz, if_pos hz]; simp
            · simp [hz]
          · rw [if_neg ho, if_neg ho, if_neg (by simp)]
    · rw [if_neg h, if_neg h, if_pos rfl, List.append_nil]
theorem lexG_acc (s : ByteArray) (i : Nat) (l : List Tk) : lexG s i l = if (lexG s i []).2.2 = 0 then (l ++ (lexG s i []).1, (lexG s i []).2) else lexG s i [] := lexF_acc s _ i l
/-- Tokens one behind another, as a text has them. -/
def Chain (s : ByteArray) : Nat → List Tk → Prop
  | _, [] => True
  | i, t :: ts => ∃ j n, i ≤ j ∧ TokAt s j t n ∧ Chain s (j + n) ts
theorem Chain.less {s : ByteArray} : ∀ {ts : List Tk} {i k : Nat}, Chain s i ts → k ≤ i → Chain s k ts
  | [], _, _, _, _ => trivial
  | _ :: _, _, _, ⟨j, n, h1, h2, h3⟩, hk => ⟨j, n, by omega, h2, h3⟩
theorem chain_of (s : ByteArray) : ∀ f i, (lexF s f i []).2.2 = 0 → Chain s i (lexF s f i []).1 := by
  intro f
  induction f with
  | zero => intro i h; exact trivial
  | succ f ih =>
    intro i h
    unfold lexF at h ⊢
    by_cases hi : i < s.size
    · rw [if_pos hi] at h ⊢
      by_cases hb : blankB (byteAt s i) = true
      · rw [if_pos hb] at h ⊢; exact (ih _ h).less (by omega)
      · rw [if_neg hb] at h ⊢
        by_cases hc : commB s i = true
        · rw [if_pos hc] at h ⊢; exact (ih _ h).less (by have := lineE_lt hc; omega)
        · rw [if_neg hc] at h ⊢
          by_cases ho : (oneS s i).2.2 = true
          · rw [if_pos ho] at h ⊢
            rw [lexF_acc] at h ⊢
            by_cases hz : (lexF s f (oneS s i).2.1 []).2.2 = 0
            · rw [if_pos hz]
              have hl := oneS_lt hi ho
              refine ⟨i, (oneS s i).2.1 - i, Nat.le_refl _, ⟨?_, by simpa using hc, by simpa using hb, hi⟩, ?_⟩
              · rw [show i + ((oneS s i).2.1 - i) = (oneS s i).2.1 by omega, ← ho]
              · rw [show i + ((oneS s i).2.1 - i) = (oneS s i).2.1 by omega]
                exact ih _ hz
            · rw [if_neg hz] at h; exact absurd h hz
          · rw [if_neg ho] at h; cases h
    · rw [if_neg hi] at h ⊢; exact trivial
end Go.Proofs.YtcbifoimfhfccaaGreatDoor

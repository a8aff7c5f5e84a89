/- Where a text is stuck, and what stands ahead of it. Plain. -/
import Derived.Test.YtcbifoimfhfccaaDoorLexV
namespace Go.Proofs.YtcbifoimfhfccaaDoor

/-- A token's text, a blank, a comment, and two blanks. -/
def commX : ByteArray := ⟨#[32, 47, 47, 99, 10, 9]⟩
def goesCat : List Tk → ByteArray → ByteArray
  | [], b => b
  | t :: ts, b => goesCat ts (b ++ (textS t ++ commX))
theorem inv_comm {b : ByteArray} {L : List Tk} {t : Tk} (hi : Inv b none L) (ht : mayS t = true) : Inv (b ++ (textS t ++ commX)) none (L ++ [{ t with at_ := (b.size : Int) }]) := by
  intro s ha _
  have h1 := inv_step (ap := allAp) (p := none) hi ht (fun q h => by cases h)
  have e : sepF allAp none t b = b := rfl
  rw [e] at h1
  obtain ⟨c, hc⟩ : ∃ c, c = b ++ textS t := ⟨_, rfl⟩
  rw [← hc] at h1
  have e2 : b ++ (textS t ++ commX) = c ++ commX := by rw [hc, ByteArray.append_assoc]
  rw [e2] at ha ⊢
  have z : commX.size = 6 := rfl
  have z2 : (c ++ commX).size = c.size + 6 := by rw [ByteArray.size_append, z]
  rw [z2] at ha ⊢
  have hr := ha.r
  have hb : ∀ k, k < 6 → byteAt s (c.size + k) = byteAt commX k := fun k hk => by
    have := ha.eq (c.size + k) (by omega)
    rw [Nat.zero_add] at this
    rw [← this, byteAt_app_r]
  have b0 := hb 0 (by omega)
  have b1 := hb 1 (by omega)
  have b2 := hb 2 (by omega)
  have b3 := hb 3 (by omega)
  have b4 := hb 4 (by omega)
  have b5 := hb 5 (by omega)
  rw [Nat.add_zero] at b0
  have v0 : byteAt commX 0 = 32 := by decide
  have v1 : byteAt commX 1 = 47 := by decide
  have v2 : byteAt commX 2 = 47 := by decide
  have v3 : byteAt commX 3 = 99 := by decide
  have v4 : byteAt commX 4 = 10 := by decide
  have v5 : byteAt commX 5 = 9 := by decide
  rw [v0] at b0; rw [v1] at b1; rw [v2] at b2; rw [v3] at b3; rw [v4] at b4; rw [v5] at b5
  have hac : Ag c 0 s 0 c.size := (ag_left c commX).trans (ha.less (by omega))
  rw [h1 s hac (Or.inr fun q _ => Or.inl (by rw [b0]; decide)), lexG_blank (by omega) (by rw [b0]; decide)]
  have hl : lineE s (c.size + 1) = c.size + 4 := by
    unfold lineE
    rw [show s.size - (c.size + 1) = (s.size - (c.size + 5)) + 1 + 1 + 1 + 1 by omega]
    unfold lineF
    rw [b1, if_neg (by decide)]
    unfold lineF
    rw [b2, if_neg (by decide)]
    unfold lineF
    rw [b3, if_neg (by decide)]
    unfold lineF
    rw [b4, if_pos rfl]
  rw [lexG_comm (by omega) (by rw [b1]; decide) (commB_iff.2 ⟨by omega, b1, b2⟩), hl, lexG_blank (by omega) (by rw [b4]; decide), lexG_blank (by omega) (by rw [b5]; decide)]
theorem inv_goes : ∀ ts b L, Inv b none L → ts.all mayS = true → ∃ L', Inv (goesCat ts b) none (L ++ L') ∧ eqK sameK ts L' = true := by
  intro ts
  induction ts with
  | nil => intro b L hi _; exact ⟨[], by rw [List.append_nil]; exact hi, rfl⟩
  | cons t ts ih =>
    intro b L hi hall
    rw [List.all_cons, Bool.and_eq_true] at hall
    obtain ⟨L', h1, h2⟩ := ih _ _ (inv_comm hi hall.1) hall.2
    refine ⟨{ t with at_ := (b.size : Int) } :: L', ?_, eqK_cons.2 ⟨sameK_iff.2 ⟨rfl, rfl, rfl⟩, h2⟩⟩
    rw [List.append_assoc] at h1
    exact h1
/-- Blanks and comments are of no moment. -/
theorem goes_lex {ts : List Tk} (hall : ts.all mayS = true) : if 65536 < (goesCat ts ByteArray.empty).size then (lexS (goesCat ts ByteArray.empty)).2.2 = 3 else (lexS (goesCat ts ByteArray.empty)).2.2 = 0 ∧ eqK sameK ts (lexS (goesCat ts ByteArray.empty)).1 = true := by
  obtain ⟨L', h1, h2⟩ := inv_goes ts ByteArray.empty [] inv_nil hall
  split
  · rename_i h; unfold lexS; rw [if_pos h]
  · rename_i h
    rw [lexS_small (by omega), h1 _ ⟨by omega, by omega, fun _ _ => rfl⟩ (Or.inl rfl), lexG_end (Nat.le_refl _)]
    exact ⟨rfl, by simpa using h2⟩
/-- Each token's text stands at its place. -/
theorem chain_at {s : ByteArray} : ∀ ts i, Chain s i ts → ∀ t ∈ ts, mayS t = true ∧ ∃ j n : Nat, t.at_ = j ∧ j + n ≤ s.size ∧ textS t = s.extract j (j + n) ∧ (textS t).size = n := by
  intro ts
  induction ts with
  | nil => intro i _ t ht; cases ht
  | cons t ts ih =>
    rintro i ⟨j, n, _, h1, h2⟩ u hu
    rcases List.mem_cons.1 hu with rfl | hu
    · exact ⟨tok_may h1, j, n, h1.place, h1.pos.2, h1.text, by rw [h1.text, size_ext s h1.pos.2]⟩
    · exact ih _ h2 u hu

theorem lineF_ten {s : ByteArray} : ∀ f i, i + f = s.size → lineF s f i < s.size → byteAt s (lineF s f i) = 10 := by
  intro f
  induction f with
  | zero => intro i hf h; unfold lineF at h; omega
  | succ f ih =>
    intro i hf h
    unfold lineF at h ⊢
    by_cases h1 : byteAt s i = 10
    · rw [if_pos h1]; exact h1
    · rw [if_neg h1] at h ⊢; exact ih (i + 1) (by omega) h
theorem lineF_ag {s t : ByteArray} {j : Nat} (ha : Ag s 0 t 0 j) : ∀ f f' i, i + f' = t.size → lineF s f i < j → byteAt s (lineF s f i) = 10 → lineF t f' i = lineF s f i := by
  have hr := ha.r
  intro f
  induction f with
  | zero =>
    intro f' i hf h h10
    have e := ha.eq i h
    rw [Nat.zero_add] at e
    have h10' : byteAt s i = 10 := h10
    have h' : i < j := h
    cases f' with
    | zero => rfl
    | succ f' =>
      show lineF t (f' + 1) i = i
      unfold lineF
      rw [← e, if_pos h10']
  | succ f ih =>
    intro f' i hf h h10
    have hle := (lineF_le s (f + 1) i).1
    have e := ha.eq i (by omega)
    rw [Nat.zero_add] at e
    cases f' with
    | zero => omega
    | succ f' =>
      unfold lineF at h h10 ⊢
      by_cases h1 : byteAt s i = 10
      · rw [← e, if_pos h1, if_pos h1]
      · rw [if_neg h1] at h h10
        rw [← e, if_neg h1, if_neg h1]
        exact ih f' (i + 1) (by omega) h h10
theorem stuck_of (s : ByteArray) : ∀ f i, s.size < i + f → (lexF s f i []).2.2 ≠ 0 → ∃ j L, i ≤ j ∧ j < s.size ∧ blankB (byteAt s j) = false ∧ (oneS s j).2.2 = false ∧ (lexF s f i []) = ([], (oneS s j).2.1, 20) ∧
    ∀ t, Ag s 0 t 0 j → (t.size = j ∨ j < t.size ∧ byteAt t j = byteAt s j) → ∀ l, lexG t i l = lexG t j (l ++ L) := by
  intro f
  induction f with
  | zero => intro i hf h; exact absurd rfl h
  | succ f ih =>
    intro i hf h
    unfold lexF at h ⊢
    by_cases hi : i < s.size
    · rw [if_pos hi] at h ⊢
      by_cases hb : blankB (byteAt s i) = true
      · rw [if_pos hb] at h ⊢
        obtain ⟨j, L, h1, h2, h3, h4, h5, h6⟩ := ih (i + 1) (by omega) h
        refine ⟨j, L, by omega, h2, h3, h4, h5, fun t ha ht l => ?_⟩
        have hr := ha.r
        have e := ha.eq i (by omega)
        rw [Nat.zero_add] at e
        rw [lexG_blank (by omega) (by rw [← e]; exact hb)]
        exact h6 t ha ht l
      · rw [if_neg hb] at h ⊢
        by_cases hc : commB s i = true
        · rw [if_pos hc] at h ⊢
          have hl := lineE_lt hc
          obtain ⟨j, L, h1, h2, h3, h4, h5, h6⟩ := ih (lineE s i) (by omega) h
          refine ⟨j, L, by omega, h2, h3, h4, h5, fun t ha ht l => ?_⟩
          have hr := ha.r
          have c := commB_iff.1 hc
          have h10 : byteAt s (lineE s i) = 10 := lineF_ten (s.size - i) i (by omega) (by unfold lineE at h1; omega)
          have hlt : lineE s i < j := by
            rcases Nat.lt_or_eq_of_le h1 with h | h
            · exact h
            · rw [← h, h10] at h3; exact absurd h3 (by decide)
          have h12 : i + 1 < lineE s i := by
            rcases Nat.lt_or_ge (i + 1) (lineE s i) with h | h
            · exact h
            · have : lineE s i = i + 1 := by omega
              rw [this, c.2.2] at h10
              exact absurd h10 (by decide)
          have e0 := ha.eq i (by omega)
          have e1 := ha.eq (i + 1) (by omega)
          rw [Nat.zero_add] at e0 e1
          have hle : lineE t i = lineE s i := lineF_ag ha (s.size - i) (t.size - i) i (by omega) hlt h10
          rw [lexG_comm (by omega) (by rw [← e0]; simpa using hb) (commB_iff.2 ⟨by omega, by rw [← e0]; exact c.2.1, by rw [← e1]; exact c.2.2⟩), hle]
          exact h6 t ha ht l
        · rw [if_neg hc] at h ⊢
          by_cases ho : (oneS s i).2.2 = true
          · rw [if_pos ho, lexF_acc] at h
            rw [if_pos ho, lexF_acc]
            by_cases hz : (lexF s f (oneS s i).2.1 []).2.2 = 0
            · rw [if_pos hz] at h; exact absurd hz h
            · rw [if_neg hz] at h ⊢
              have hl := oneS_lt hi ho
              obtain ⟨j, L, h1, h2, h3, h4, h5, h6⟩ := ih (oneS s i).2.1 (by omega) h
              have htok : TokAt s i (oneS s i).1 ((oneS s i).2.1 - i) := ⟨by rw [show i + ((oneS s i).2.1 - i) = (oneS s i).2.1 by omega, ← ho], by simpa using hc, by simpa using hb, hi⟩
              refine ⟨j, (oneS s i).1 :: L, by omega, h2, h3, h4, h5, fun t ha ht l => ?_⟩
              have hr := ha.r
              obtain ⟨n, hn⟩ : ∃ n, n = (oneS s i).2.1 - i := ⟨_, rfl⟩
              have hn2 : (oneS s i).2.1 = i + n := by omega
              rw [← hn] at htok
              have h6' := h6 t ha ht
              rw [hn2] at h1 h6' hl
              have hai : Ag s i t i n := by
                have := (ha.less (m := i + n) h1).shift i (by omega)
                rw [Nat.zero_add, Nat.add_sub_cancel_left] at this
                exact this
              have hlook : Look s i n t i := by
                rcases Nat.lt_or_eq_of_le h1 with h7 | h7
                · have e := ha.eq (i + n) h7
                  rw [Nat.zero_add] at e
                  exact Or.inr (Or.inr ⟨by omega, e.symm⟩)
                · rcases ht with ht | ht
                  · exact Or.inl (by omega)
                  · exact Or.inr (Or.inr ⟨by omega, by rw [h7]; exact ht.2⟩)
              have hm := htok.move hai hlook
              have hsame : { (oneS s i).1 with at_ := (i : Int) } = (oneS s i).1 := by
                have hp := htok.place
                generalize (oneS s i).1 = u at hp ⊢
                obtain ⟨a, b, c, d⟩ := u
                simp only at hp
                subst hp
                rfl
              rw [hsame] at hm
              rw [lexG_tok hm, h6' (l ++ [(oneS s i).1]), List.append_assoc]
              rfl
          · rw [if_neg ho] at h ⊢
            exact ⟨i, [], Nat.le_refl _, hi, by simpa using hb, by simpa using ho, rfl, fun t _ _ l => by rw [List.append_nil]⟩
    · rw [if_neg hi] at h; exact absurd rfl h
/-- How a token's taking is stuck, case by case. -/
inductive StuckC (s : ByteArray) (j p : Nat) : Prop where
  | name (h1 : (smallB (byteAt s j) || greatB (byteAt s j)) = true) (h2 : nameE s j (greatB (byteAt s j)) = (p, false))
  | num (h1 : (smallB (byteAt s j) || greatB (byteAt s j)) = false) (h2 : digitB (byteAt s j) = true) (r : Nat) (h3 : numE s j = (p, r, false))
  | life (h1 : byteAt s j = 39) (h2 : j + 1 < s.size) (h3 : smallB (byteAt s (j + 1)) = true) (q : Bool) (h4 : nameE s (j + 1) false = (p, q)) (h5 : q = true → wordB (s.extract (j + 1) p) = true)
  | quote (h1 : byteAt s j = 39) (h2 : ¬ (j + 1 < s.size ∧ smallB (byteAt s (j + 1)) = true)) (h3 : p = j + 1)
  | bar (h1 : byteAt s j = 124) (h2 : signL s j = 0) (h3 : p = j + 1)
  | sign (h1 : (smallB (byteAt s j) || greatB (byteAt s j)) = false) (h2 : digitB (byteAt s j) = false) (h3 : byteAt s j ≠ 39) (h4 : byteAt s j ≠ 124) (h5 : signL s j = 0) (h6 : p = j)
theorem stuckC_of {s : ByteArray} {j : Nat} (h : (oneS s j).2.2 = false) : StuckC s j (oneS s j).2.1 := by
  obtain ⟨p, hp⟩ : ∃ p, p = (oneS s j).2.1 := ⟨_, rfl⟩
  rw [← hp]
  unfold oneS at h hp
  simp only at h hp
  by_cases h1 : (smallB (byteAt s j) || greatB (byteAt s j)) = true
  · rw [if_pos h1] at h hp
    by_cases h2 : (nameE s j (greatB (byteAt s j))).2 = true
    · rw [if_pos h2] at h; cases h
    · rw [if_neg h2] at hp
      have h2' : (nameE s j (greatB (byteAt s j))).2 = false := by simpa using h2
      exact .name h1 (by rw [hp, ← h2'])
  · rw [if_neg h1] at h hp
    have h1' : (smallB (byteAt s j) || greatB (byteAt s j)) = false := by simpa using h1
    by_cases h2 : digitB (byteAt s j) = true
    · rw [if_pos h2] at h hp
      by_cases h3 : (numE s j).2.2 = true
      · rw [if_pos h3] at h; cases h
      · rw [if_neg h3] at hp
        have h3' : (numE s j).2.2 = false := by simpa using h3
        exact .num h1' h2 (numE s j).2.1 (by rw [hp, ← h3'])
    · rw [if_neg h2] at h hp
      have h2' : digitB (byteAt s j) = false := by simpa using h2
      by_cases h3 : byteAt s j = 39
      · rw [if_pos h3] at h hp
        by_cases h4 : j + 1 < s.size ∧ smallB (byteAt s (j + 1)) = true
        · rw [if_pos h4] at h hp
          by_cases h5 : ((nameE s (j + 1) false).2 && !wordB (s.extract (j + 1) (nameE s (j + 1) false).1)) = true
          · rw [if_pos h5] at h; cases h
          · rw [if_neg h5] at hp
            simp only at hp
            refine .life h3 h4.1 h4.2 (nameE s (j + 1) false).2 (by rw [hp]) (fun hq => ?_)
            rw [hq, ← hp] at h5
            simpa using h5
        · rw [if_neg h4] at hp
          exact .quote h3 h4 hp
      · rw [if_neg h3] at h hp
        by_cases h4 : signL s j = 0
        · rw [if_pos h4] at hp
          by_cases h5 : byteAt s j = 124
          · rw [if_pos h5] at hp; exact .bar h5 h4 hp
          · rw [if_neg h5] at hp; exact .sign h1' h2' h3 h5 h4 hp
        · rw [if_neg h4] at h; cases h
end Go.Proofs.YtcbifoimfhfccaaDoor

/- Tokens' texts put together are lexed as the tokens. Plain. -/
import Derived.Test.YtcbifoimfhfccaaGreatDoorLexU
namespace Go.Proofs.YtcbifoimfhfccaaGreatDoor

def sepF (ap : Tk → Tk → Bool) (p : Option Tk) (t : Tk) (b : ByteArray) : ByteArray := match p with | none => b | some q => if ap q t = true then b ++ ⟨#[32]⟩ else b
def joinF (ap : Tk → Tk → Bool) : List Tk → Option Tk → ByteArray → ByteArray × Nat
  | [], _, b => (b, 0)
  | t :: ts, p, b => if 65536 < (sepF ap p t b ++ textS t).size then (ByteArray.empty, 3) else joinF ap ts (some t) (sepF ap p t b ++ textS t)
def allAp (_ _ : Tk) : Bool := true
def tightAp (a b : Tk) : Bool := !likeB (textS a ++ textS b) [a, b]
def joinS (ap : Tk → Tk → Bool) (ts : List Tk) : ByteArray × Nat := if ts.all mayS = true then joinF ap ts none ByteArray.empty else (ByteArray.empty, 2)
def catF (ap : Tk → Tk → Bool) : List Tk → Option Tk → ByteArray → ByteArray
  | [], _, b => b
  | t :: ts, p, b => catF ap ts (some t) (sepF ap p t b ++ textS t)
theorem sepF_size (ap : Tk → Tk → Bool) (p : Option Tk) (t : Tk) (b : ByteArray) : b.size ≤ (sepF ap p t b).size ∧ (sepF ap p t b).size ≤ b.size + 1 := by
  have z : (⟨#[32]⟩ : ByteArray).size = 1 := rfl
  unfold sepF
  split
  · omega
  · split
    · rw [ByteArray.size_append, z]; omega
    · omega
theorem catF_size (ap : Tk → Tk → Bool) : ∀ ts p b, b.size ≤ (catF ap ts p b).size := by
  intro ts
  induction ts with
  | nil => intro p b; exact Nat.le_refl _
  | cons t ts ih =>
    intro p b
    have h1 := ih (some t) (sepF ap p t b ++ textS t)
    have h2 := sepF_size ap p t b
    rw [ByteArray.size_append] at h1
    unfold catF
    omega
theorem joinF_cat (ap : Tk → Tk → Bool) : ∀ ts p b, b.size ≤ 65536 → joinF ap ts p b = if 65536 < (catF ap ts p b).size then (ByteArray.empty, 3) else (catF ap ts p b, 0) := by
  intro ts
  induction ts with
  | nil => intro p b h; unfold joinF catF; rw [if_neg (by omega)]
  | cons t ts ih =>
    intro p b h
    unfold joinF catF
    by_cases h1 : 65536 < (sepF ap p t b ++ textS t).size
    · have := catF_size ap ts (some t) (sepF ap p t b ++ textS t)
      rw [if_pos h1, if_pos (by omega)]
    · rw [if_neg h1]
      exact ih _ _ (by omega)
theorem cat_le {ap ap' : Tk → Tk → Bool} (h : ∀ a b, ap a b = true → ap' a b = true) : ∀ ts p b b', b.size ≤ b'.size → (catF ap ts p b).size ≤ (catF ap' ts p b').size := by
  have z : (⟨#[32]⟩ : ByteArray).size = 1 := rfl
  intro ts
  induction ts with
  | nil => intro p b b' hb; exact hb
  | cons t ts ih =>
    intro p b b' hb
    unfold catF
    refine ih _ _ _ ?_
    rw [ByteArray.size_append, ByteArray.size_append]
    have : (sepF ap p t b).size ≤ (sepF ap' p t b').size := by
      cases p with
      | none => exact hb
      | some q =>
        unfold sepF
        simp only
        by_cases h1 : ap q t = true
        · rw [if_pos h1, if_pos (h q t h1), ByteArray.size_append, ByteArray.size_append]; omega
        · rw [if_neg h1]
          split
          · rw [ByteArray.size_append]; omega
          · exact hb
    omega
/-- A byte behind a token that does not make it longer. -/
def Follow (p : Tk) (c : Nat) : Prop := blankB c = true ∨ ∃ y, TokAt y 0 { p with at_ := 0 } (textS p).size ∧ (textS p).size < y.size ∧ Ag (textS p) 0 y 0 (textS p).size ∧ byteAt y (textS p).size = c
def EndsOk (p : Option Tk) (s : ByteArray) (k : Nat) : Prop := k = s.size ∨ ∀ q, p = some q → Follow q (byteAt s k)
/-- A text that begins with these bytes is lexed as these tokens, and what stands behind. -/
def Inv (b : ByteArray) (p : Option Tk) (L : List Tk) : Prop := ∀ s, Ag b 0 s 0 b.size → EndsOk p s b.size → lexG s 0 [] = lexG s b.size L
theorem inv_nil : Inv ByteArray.empty none [] := fun _ _ _ => rfl
/-- A token that may be stands wherever its text stands, if what follows lets it. -/
theorem may_at {t : Tk} (ht : mayS t = true) {s : ByteArray} {j : Nat} (ha : Ag (textS t) 0 s j (textS t).size) (he : EndsOk (some t) s (j + (textS t).size)) : TokAt s j { t with at_ := (j : Int) } (textS t).size := by
  have ho := may_own ht
  rcases he with h | h
  · exact ho.move ha (Or.inl h)
  · rcases h t rfl with h | ⟨y, h1, h2, h3, h4⟩
    · exact ho.move ha (Or.inr (Or.inl h))
    · exact h1.move (h3.symm.trans ha) (Or.inr (Or.inr ⟨by omega, by rw [Nat.zero_add, h4]⟩))
theorem inv_step {ap : Tk → Tk → Bool} {b : ByteArray} {p : Option Tk} {L : List Tk} {t : Tk} (hi : Inv b p L) (ht : mayS t = true) (hf : ∀ q, p = some q → ap q t = false → Follow q (byteAt (textS t) 0)) :
    Inv (sepF ap p t b ++ textS t) (some t) (L ++ [{ t with at_ := ((sepF ap p t b).size : Int) }]) := by
  intro s ha he
  have hts := may_size ht
  obtain ⟨c, hc⟩ : ∃ c, c = sepF ap p t b := ⟨_, rfl⟩
  rw [← hc] at ha he ⊢
  have z1 : (c ++ textS t).size = c.size + (textS t).size := ByteArray.size_append
  rw [z1] at ha he ⊢
  have hac : Ag c 0 s 0 c.size := (ag_left c (textS t)).trans (ha.less (by omega))
  have hat : Ag (textS t) 0 s c.size (textS t).size := by
    have h1 := ha.shift c.size (by omega)
    rw [Nat.add_sub_cancel_left, Nat.zero_add] at h1
    exact (ag_right c (textS t)).trans h1
  have htok := may_at ht hat he
  have hrs := ha.r
  have hgo : lexG s 0 [] = lexG s c.size L := by
    have noSep : c = b → (∀ q, p = some q → ap q t = false) → lexG s 0 [] = lexG s c.size L := by
      intro hcb hq
      rw [hcb] at hac hat ⊢
      refine hi s hac (Or.inr fun q hpq => ?_)
      have h0 := hat.eq 0 hts.1
      rw [Nat.zero_add, Nat.add_zero] at h0
      rw [← h0]
      exact hf q hpq (hq q hpq)
    cases p with
    | none => exact noSep hc (fun q h => by cases h)
    | some q =>
      unfold sepF at hc
      simp only at hc
      by_cases h1 : ap q t = true
      · rw [if_pos h1] at hc
        have z : (⟨#[32]⟩ : ByteArray).size = 1 := rfl
        have zc : c.size = b.size + 1 := by rw [hc, ByteArray.size_append, z]
        have hab : Ag b 0 s 0 b.size := by
          have := ag_left b ⟨#[32]⟩
          rw [← hc] at this
          exact this.trans (hac.less (by omega))
        have h32 : byteAt s b.size = 32 := by
          have h2 := hac.eq b.size (by omega)
          rw [Nat.zero_add] at h2
          rw [← h2, hc]
          exact byteAt_app_r b ⟨#[32]⟩ 0
        rw [hi s hab (Or.inr fun q _ => Or.inl (by rw [h32]; decide)), lexG_blank (by omega) (by rw [h32]; decide), zc]
      · rw [if_neg h1] at hc
        exact noSep hc (fun q' h => by cases h; simpa using h1)
  rw [hgo, lexG_tok htok]
theorem inv_cat {ap : Tk → Tk → Bool} (hf : ∀ q t, mayS q = true → mayS t = true → ap q t = false → Follow q (byteAt (textS t) 0)) :
    ∀ ts p b L, Inv b p L → (∀ q, p = some q → mayS q = true) → ts.all mayS = true → ∃ p' L', Inv (catF ap ts p b) p' (L ++ L') ∧ eqK sameK L' ts = true := by
  intro ts
  induction ts with
  | nil => intro p b L hi _ _; exact ⟨p, [], by rw [List.append_nil]; exact hi, rfl⟩
  | cons t ts ih =>
    intro p b L hi hp hall
    rw [List.all_cons, Bool.and_eq_true] at hall
    obtain ⟨p', L', h1, h2⟩ := ih (some t) _ _ (inv_step (ap := ap) hi hall.1 (fun q hq hap => hf q t (hp q hq) hall.1 hap)) (fun q hq => by cases hq; exact hall.1) hall.2
    refine ⟨p', { t with at_ := ((sepF ap p t b).size : Int) } :: L', ?_, eqK_cons.2 ⟨sameK_at t _, h2⟩⟩
    rw [List.append_assoc] at h1
    exact h1
theorem cat_lex {ap : Tk → Tk → Bool} (hf : ∀ q t, mayS q = true → mayS t = true → ap q t = false → Follow q (byteAt (textS t) 0)) {ts : List Tk} (hall : ts.all mayS = true) (hz : (catF ap ts none ByteArray.empty).size ≤ 65536) : likeB (catF ap ts none ByteArray.empty) ts = true := by
  obtain ⟨p', L', h1, h2⟩ := inv_cat hf ts none ByteArray.empty [] inv_nil (fun q h => by cases h) hall
  unfold likeB
  rw [lexS_small hz, h1 _ ⟨by omega, by omega, fun _ _ => rfl⟩ (Or.inl rfl), lexG_end (Nat.le_refl _)]
  simpa using h2
theorem all_follow (q t : Tk) (_ : mayS q = true) (_ : mayS t = true) (h : allAp q t = false) : Follow q (byteAt (textS t) 0) := by cases h
theorem tight_follow (q t : Tk) (hq : mayS q = true) (ht : mayS t = true) (h : tightAp q t = false) : Follow q (byteAt (textS t) 0) := by
  have hl : likeB (textS q ++ textS t) [q, t] = true := by unfold tightAp at h; simpa using h
  have := may_size ht
  exact Or.inr ⟨_, like_two hq ht hl, by rw [ByteArray.size_append]; omega, ag_left _ _, by have := byteAt_app_r (textS q) (textS t) 0; rw [Nat.add_zero] at this; exact this⟩
/-- THERE AND BACK: tokens that are joined. -/
theorem join_back {l : List Tk} (h : (joinS allAp l).2 = 0) : (joinS tightAp l).2 = 0 ∧ likeB (joinS allAp l).1 l = true ∧ likeB (joinS tightAp l).1 l = true ∧ (joinS tightAp l).1.size ≤ (joinS allAp l).1.size := by
  unfold joinS at h ⊢
  by_cases hall : l.all mayS = true
  · rw [if_pos hall] at h ⊢
    rw [if_pos hall]
    rw [joinF_cat _ _ _ _ (by decide)] at h ⊢
    rw [joinF_cat _ _ _ _ (by decide)]
    have hle := cat_le (ap := tightAp) (ap' := allAp) (fun _ _ _ => rfl) l none ByteArray.empty ByteArray.empty (Nat.le_refl _)
    by_cases hz : 65536 < (catF allAp l none ByteArray.empty).size
    · rw [if_pos hz] at h; cases h
    · rw [if_neg hz, if_neg (by omega)]
      exact ⟨rfl, cat_lex all_follow hall (by omega), cat_lex tight_follow hall (by omega), hle⟩
  · rw [if_neg hall] at h; cases h
/-- Tokens of a text, tight, take no more room than in the text. -/
theorem chain_tight {s : ByteArray} (hs : s.size ≤ 16384) : ∀ ts i p b, Chain s i ts → b.size ≤ i → i ≤ s.size → (∀ q, p = some q → ∃ a n, TokAt s a q n ∧ a + n = i) → (catF tightAp ts p b).size ≤ s.size := by
  intro ts
  induction ts with
  | nil => intro i p b _ h1 h2 _; exact Nat.le_trans h1 h2
  | cons t ts ih =>
    rintro i p b ⟨j, n, hij, htok, hch⟩ h1 h2 hp
    have htx := htok.text
    have hpos := htok.pos
    have hz : (textS t).size = n := by rw [htx, size_ext s hpos.2]
    unfold catF
    refine ih (j + n) (some t) _ hch ?_ hpos.2 (fun q hq => by cases hq; exact ⟨j, n, htok, rfl⟩)
    rw [ByteArray.size_append, hz]
    rcases Nat.lt_or_eq_of_le hij with h | rfl
    · have := (sepF_size tightAp p t b).2; omega
    · have : sepF tightAp p t b = b := by
        cases p with
        | none => rfl
        | some q =>
          obtain ⟨a, m, hq, ham⟩ := hp q rfl
          have hqx := hq.text
          have hqp := hq.pos
          have hzq : (textS q).size = m := by rw [hqx, size_ext s hqp.2]
          unfold sepF
          simp only
          rw [if_neg]
          unfold tightAp
          have hy : textS q ++ textS t = s.extract a (a + (m + n)) := by
            refine bytes_eq (by rw [ByteArray.size_append, hz, hzq, size_ext s (by omega)]) fun k hk => ?_
            rw [ByteArray.size_append, hz, hzq] at hk
            rw [byteAt_ext _ _ _ _ (by omega)]
            rcases Nat.lt_or_ge k m with hkm | hkm
            · rw [byteAt_app_l _ _ (by omega), hqx, byteAt_ext _ _ _ _ (by omega)]
            · rw [show k = (textS q).size + (k - m) by omega, byteAt_app_r, htx, byteAt_ext _ _ _ _ (by omega), hzq]
              congr 1
              omega
          have hzy : (s.extract a (a + (m + n))).size = m + n := size_ext s (by omega)
          have ha := ag_ext s (i := a) (n := m + n) (by omega)
          have t1 := hq.move (ha.less (Nat.le_add_right m n)) (Or.inr (Or.inr ⟨by omega, (ha.eq m (by omega)).symm⟩))
          have ha2 := ha.shift m (by omega)
          rw [ham, Nat.add_sub_cancel_left] at ha2
          have t2 := htok.move ha2 (Or.inl (by omega))
          have hl : likeB (textS q ++ textS t) [q, t] = true := by
            rw [hy]
            unfold likeB
            rw [lexS_small (by omega), lexG_tok t1, lexG_tok t2, lexG_end (by omega)]
            simp only [decide_true, Bool.true_and]
            exact eqK_cons.2 ⟨sameK_at q _, eqK_cons.2 ⟨sameK_at t _, eqK_nil⟩⟩
          rw [hl]
          decide
      rw [this]
      omega
theorem chain_may {s : ByteArray} : ∀ ts i, Chain s i ts → ts.all mayS = true := by
  intro ts
  induction ts with
  | nil => intro i _; rfl
  | cons t ts ih =>
    rintro i ⟨j, n, _, h1, h2⟩
    rw [List.all_cons, tok_may h1, ih _ h2]
    rfl
/-- THERE AND BACK: what a text is lexed to. -/
theorem lex_back {s : ByteArray} (hs : s.size ≤ 16384) (h : (lexS s).2.2 = 0) : (joinS tightAp (lexS s).1).2 = 0 ∧ likeB (joinS tightAp (lexS s).1).1 (lexS s).1 = true ∧ (joinS tightAp (lexS s).1).1.size ≤ s.size := by
  have hch : Chain s 0 (lexS s).1 := by
    rw [lexS_small (by omega)] at h ⊢
    exact chain_of s _ 0 h
  have hall := chain_may _ _ hch
  have hz := chain_tight hs _ 0 none ByteArray.empty hch (Nat.le_refl _) (Nat.zero_le _) (fun q h => by cases h)
  unfold joinS
  rw [if_pos hall, joinF_cat _ _ _ _ (by decide), if_neg (by omega)]
  exact ⟨rfl, cat_lex tight_follow hall (by omega), hz⟩
end Go.Proofs.YtcbifoimfhfccaaGreatDoor

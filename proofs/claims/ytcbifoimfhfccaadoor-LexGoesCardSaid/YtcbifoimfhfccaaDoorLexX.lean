/- Where a text is stuck: what stands ahead of it goes on; with the byte it does not. Plain. -/
import Derived.Test.YtcbifoimfhfccaaDoorLexW
namespace Go.Proofs.YtcbifoimfhfccaaDoor

theorem nameF_ext {s t : ByteArray} {b c : Nat} {g : Bool} {n : Nat} {q : Bool} (ha : Ag s b t c n) (hn : n < 32) (hl : c + n + 1 = t.size) (h97 : byteAt t (c + n) = 97) :
    ∀ f f' j, b + j + f = s.size → c + j + f' = t.size → nameF s b g f (b + j) = (b + n, q) → nameF t c g f' (c + j) = (c + n + 1, true) := by
  have fin : ∀ f', c + n + f' = t.size → nameF t c g f' (c + n) = (c + n + 1, true) := by
    intro f' hf
    obtain rfl : f' = 1 := by omega
    unfold nameF
    rw [h97, if_pos (by decide), show greatB 97 = false by decide, if_neg (by simp; omega)]
    rfl
  intro f
  induction f with
  | zero =>
    intro f' j h1 h2 h
    have e : b + j = b + n := congrArg Prod.fst h
    obtain rfl : j = n := by omega
    exact fin f' h2
  | succ f ih =>
    intro f' j h1 h2 h
    unfold nameF at h
    by_cases hr : rowB (byteAt s (b + j)) = true
    · rw [if_pos hr] at h
      by_cases hb : (greatB (byteAt s (b + j)) && !g || decide (b + j - b = 32)) = true
      · rw [if_pos hb] at h
        have e : b + j = b + n := congrArg Prod.fst h
        obtain rfl : j = n := by omega
        exact fin f' h2
      · rw [if_neg hb] at h
        have hle := (nameF_le s b g f (b + j + 1)).1
        rw [h] at hle
        simp only at hle
        have hj : j < n := by omega
        cases f' with
        | zero => omega
        | succ f' =>
          unfold nameF
          rw [← ha.eq j hj, if_pos hr, if_neg (by rw [show c + j - c = b + j - b by omega]; exact hb)]
          exact ih f' (j + 1) (by omega) (by omega) h
    · rw [if_neg hr] at h
      have e : b + j = b + n := congrArg Prod.fst h
      obtain rfl : j = n := by omega
      exact fin f' h2
theorem word_a : ∀ w ∈ wordL, wordB (w ++ ⟨#[97]⟩) = false := by decide +kernel
theorem word_size : ∀ w ∈ wordL, w.size ≤ 8 := by decide +kernel
theorem letter_plain {c : Nat} (h : (smallB c || greatB c) = true) : c ≠ 47 ∧ rowB c = true ∧ (greatB c && !greatB c) = false := by
  refine ⟨fun h2 => ?_, ?_, by cases greatB c <;> rfl⟩
  · subst h2; exact absurd h (by decide)
  · unfold rowB; rw [h]; simp
theorem comm_ne {s : ByteArray} {j : Nat} (h : byteAt s j ≠ 47) : commB s j = false := commB_mk fun ⟨_, h2, _⟩ => h h2
theorem app_empty (a : ByteArray) : (a ++ ByteArray.empty).size = a.size := by rw [ByteArray.size_append]; rfl
/-- WHAT STANDS AHEAD GOES ON, with one of these endings. -/
theorem goes_cut {s : ByteArray} (hs : s.size ≤ 16384) (h : (lexS s).2.2 ≠ 0) :
    (lexS s).2.2 = 20 ∧ (lexS s).2.1 ≤ s.size ∧ ((lexS (s.extract 0 (lexS s).2.1 ++ ByteArray.empty)).2.2 = 0 ∨ (lexS (s.extract 0 (lexS s).2.1 ++ ⟨#[97]⟩)).2.2 = 0 ∨ (lexS (s.extract 0 (lexS s).2.1 ++ ⟨#[124]⟩)).2.2 = 0) := by
  rw [lexS_small (by omega)] at h ⊢
  obtain ⟨j, L, -, hj, hb, ho, hlex, hgo⟩ := stuck_of s _ 0 (by omega) h
  have hst := stuckC_of ho
  rw [show lexG s 0 [] = ([], (oneS s j).2.1, 20) from hlex]
  clear hlex h
  simp only
  generalize (oneS s j).2.1 = p at hst ⊢
  have put : ∀ (x : ByteArray) (hp : p ≤ s.size) (hx : x.size ≤ 1), Ag s 0 (s.extract 0 p ++ x) 0 p ∧ (s.extract 0 p ++ x).size = p + x.size := fun x hp hx =>
    ⟨ag_pre s hp x, by rw [ByteArray.size_append]; have := size_ext s (a := 0) (n := p) (by omega); rw [Nat.zero_add] at this; rw [this]⟩
  have tok : ∀ (x : ByteArray) (hp : p ≤ s.size) (hx : x.size ≤ 1) (u : Tk) (n : Nat), j < p → TokAt (s.extract 0 p ++ x) j u n → j + n = p + x.size → (lexS (s.extract 0 p ++ x)).2.2 = 0 := by
    intro x hp hx u n hjp htok hend
    obtain ⟨ha, hz⟩ := put x hp hx
    have e := ha.eq j hjp
    rw [Nat.zero_add] at e
    rw [lexS_small (by omega), hgo _ (ha.less (by omega)) (Or.inr ⟨by omega, e.symm⟩), lexG_tok htok, lexG_end (by omega)]
  have ze : ByteArray.empty.size = 0 := rfl
  have za : (⟨#[97]⟩ : ByteArray).size = 1 := rfl
  have zb : (⟨#[124]⟩ : ByteArray).size = 1 := rfl
  cases hst with
  | name h1 h2 =>
    obtain ⟨c1, c2, c3⟩ := letter_plain h1
    have hl := nameE_lt (g := greatB (byteAt s j)) hj c2 c3
    rw [h2] at hl
    simp only at hl
    refine ⟨trivial, hl.2, Or.inl ?_⟩
    obtain ⟨ha, hz⟩ := put ByteArray.empty hl.2 (by omega)
    have hs1 := (ha.shift j (by omega))
    rw [Nat.zero_add] at hs1
    have e := ha.eq j hl.1
    rw [Nat.zero_add] at e
    have hn := nameE_cut (g := greatB (byteAt s j)) (q := false) hs1 (Or.inl (by omega)) (by rw [h2]; congr 1; omega)
    refine tok ByteArray.empty hl.2 (by omega) _ (p - j) hl.1 ⟨oneS_of (.name (by rw [← e]; exact h1) (by rw [← e]; exact hn) rfl), comm_ne (by rw [← e]; exact c1), by rw [← e]; exact hb, by omega⟩ (by omega)
  | num h1 h2 r h3 =>
    have hl := numE_lt hj h2
    rw [h3] at hl
    simp only at hl
    refine ⟨trivial, hl.2, Or.inl ?_⟩
    obtain ⟨ha, hz⟩ := put ByteArray.empty hl.2 (by omega)
    have hs1 := (ha.shift j (by omega))
    rw [Nat.zero_add] at hs1
    have e := ha.eq j hl.1
    rw [Nat.zero_add] at e
    obtain ⟨r', hn, -⟩ := numE_cut (r := r) (q := false) hs1 (Or.inl (by omega)) (by rw [h3]; congr 1; omega)
    have c1 : byteAt s j ≠ 47 := fun h47 => by rw [h47] at h2; exact absurd h2 (by decide)
    refine tok ByteArray.empty hl.2 (by omega) _ (p - j) hl.1 ⟨oneS_of (.num (by rw [← e]; exact h1) (by rw [← e]; exact h2) r' hn rfl), comm_ne (by rw [← e]; exact c1), by rw [← e]; exact hb, by omega⟩ (by omega)
  | life h1 h2 h3 q h4 h5 =>
    have hl := nameE_lt (g := false) h2 (row_of_small h3) (by rw [small_not_great h3]; rfl)
    rw [h4] at hl
    simp only at hl
    refine ⟨trivial, hl.2, ?_⟩
    have c1 : byteAt s j ≠ 47 := by rw [h1]; decide
    by_cases hw : wordB (s.extract (j + 1) p) = true
    · refine Or.inr (Or.inl ?_)
      obtain ⟨ha, hz⟩ := put ⟨#[97]⟩ hl.2 (by omega)
      have hx97 : byteAt (s.extract 0 p ++ ⟨#[97]⟩) p = 97 := by
        have := byteAt_app_r (s.extract 0 p) ⟨#[97]⟩ 0
        have hsz := size_ext s (a := 0) (n := p) (by omega)
        rw [Nat.zero_add] at hsz
        rw [hsz, Nat.add_zero] at this
        rw [this]
        rfl
      obtain ⟨t, ht⟩ : ∃ t, t = s.extract 0 p ++ ⟨#[97]⟩ := ⟨_, rfl⟩
      rw [← ht] at ha hz hx97
      have tok' := tok ⟨#[97]⟩ hl.2 (by omega)
      rw [← ht] at tok' ⊢
      have hs1 := (ha.shift (j + 1) (by omega))
      rw [Nat.zero_add] at hs1
      have hwsz := word_size _ (wordB_iff.1 hw)
      have hez := size_ext s (a := j + 1) (n := p - (j + 1)) (by omega)
      rw [show j + 1 + (p - (j + 1)) = p by omega] at hez
      have e0 := ha.eq j (by omega)
      have e1 := ha.eq (j + 1) (by omega)
      rw [Nat.zero_add] at e0 e1
      have hn : nameE t (j + 1) false = (j + 1 + (p - (j + 1)) + 1, true) := nameF_ext (q := q) hs1 (by omega) (by omega) (by rw [show j + 1 + (p - (j + 1)) = p by omega]; exact hx97) (s.size - (j + 1)) (t.size - (j + 1)) 0 (by omega) (by omega) (by unfold nameE at h4; rw [Nat.add_zero, h4]; congr 1; omega)
      have hxe : t.extract (j + 1) (p + 1) = s.extract (j + 1) p ++ ⟨#[97]⟩ := by
        have z3 := size_ext t (a := j + 1) (n := p - j) (by omega)
        rw [show j + 1 + (p - j) = p + 1 by omega] at z3
        refine bytes_eq (by rw [z3, ByteArray.size_append, hez, za]; omega) fun k hk => ?_
        rw [z3] at hk
        rw [byteAt_ext _ _ _ _ (by omega)]
        rcases Nat.lt_or_ge k (p - (j + 1)) with hk2 | hk2
        · rw [byteAt_app_l _ _ (by omega), byteAt_ext _ _ _ _ (by omega)]
          have := ha.eq (j + 1 + k) (by omega)
          rw [Nat.zero_add] at this
          exact this.symm
        · have : k = (s.extract (j + 1) p).size + 0 := by omega
          rw [this, byteAt_app_r, hez, show j + 1 + (p - (j + 1) + 0) = p by omega, hx97]
          rfl
      have e5 : j + (p + 1 - j) = p + 1 := by omega
      refine tok' _ (p + 1 - j) (by omega) ⟨oneS_of (.life (by rw [← e0]; exact h1) (by omega) (by rw [← e1]; exact h3) (by rw [hn]; congr 1; omega) (by rw [e5, hxe]; exact word_a _ (wordB_iff.1 hw)) rfl), comm_ne (by rw [← e0]; exact c1), by rw [← e0]; exact hb, by omega⟩ (by omega)
    · refine Or.inl ?_
      obtain ⟨ha, hz⟩ := put ByteArray.empty hl.2 (by omega)
      obtain ⟨t, ht⟩ : ∃ t, t = s.extract 0 p ++ ByteArray.empty := ⟨_, rfl⟩
      rw [← ht] at ha hz
      have tok' := tok ByteArray.empty hl.2 (by omega)
      rw [← ht] at tok' ⊢
      have hs1 := (ha.shift (j + 1) (by omega))
      rw [Nat.zero_add] at hs1
      have e0 := ha.eq j (by omega)
      have e1 := ha.eq (j + 1) (by omega)
      rw [Nat.zero_add] at e0 e1
      have hn := nameE_cut (g := false) (q := q) hs1 (Or.inl (by omega)) (by rw [h4]; congr 1; omega)
      have hx1 := hs1.ext
      rw [show j + 1 + (p - (j + 1)) = p by omega] at hx1
      have e5 : j + (p - j) = p := by omega
      refine tok' _ (p - j) (by omega) ⟨oneS_of (.life (by rw [← e0]; exact h1) (by omega) (by rw [← e1]; exact h3) (by rw [hn]; congr 1; omega) (by rw [e5, ← hx1]; simpa using hw) rfl), comm_ne (by rw [← e0]; exact c1), by rw [← e0]; exact hb, by omega⟩ (by omega)
  | quote h1 h2 h3 =>
    subst h3
    refine ⟨trivial, by omega, Or.inr (Or.inl ?_)⟩
    have c1 : byteAt s j ≠ 47 := by rw [h1]; decide
    obtain ⟨ha, hz⟩ := put ⟨#[97]⟩ (by omega) (by omega)
    have hx97 : byteAt (s.extract 0 (j + 1) ++ ⟨#[97]⟩) (j + 1) = 97 := by
      have := byteAt_app_r (s.extract 0 (j + 1)) ⟨#[97]⟩ 0
      have hsz := size_ext s (a := 0) (n := j + 1) (by omega)
      rw [Nat.zero_add] at hsz
      rw [hsz, Nat.add_zero] at this
      rw [this]
      rfl
    obtain ⟨t, ht⟩ : ∃ t, t = s.extract 0 (j + 1) ++ ⟨#[97]⟩ := ⟨_, rfl⟩
    rw [← ht] at ha hz hx97
    have tok' := tok ⟨#[97]⟩ (by omega) (by omega)
    rw [← ht] at tok' ⊢
    have e0 := ha.eq j (by omega)
    rw [Nat.zero_add] at e0
    have hn : nameE t (j + 1) false = (j + 2, true) := by
      unfold nameE
      rw [show t.size - (j + 1) = 1 by omega]
      unfold nameF
      rw [hx97, if_pos (by decide), show greatB 97 = false by decide, if_neg (by simp)]
      rfl
    have hxe : t.extract (j + 1) (j + 2) = ⟨#[97]⟩ := by
      have z3 := size_ext t (a := j + 1) (n := 1) (by omega)
      refine bytes_eq (by rw [z3, za]) fun k hk => ?_
      rw [z3] at hk
      obtain rfl : k = 0 := by omega
      rw [byteAt_ext _ _ _ _ (by omega), Nat.add_zero, hx97]
      rfl
    refine tok' _ 2 (by omega) ⟨oneS_of (.life (by rw [← e0]; exact h1) (by omega) (by rw [hx97]; decide) hn (by rw [hxe]; decide +kernel) rfl), comm_ne (by rw [← e0]; exact c1), by rw [← e0]; exact hb, by omega⟩ (by omega)
  | bar h1 h2 h3 =>
    subst h3
    refine ⟨trivial, by omega, Or.inr (Or.inr ?_)⟩
    have c1 : byteAt s j ≠ 47 := by rw [h1]; decide
    obtain ⟨ha, hz⟩ := put ⟨#[124]⟩ (by omega) (by omega)
    have hx97 : byteAt (s.extract 0 (j + 1) ++ ⟨#[124]⟩) (j + 1) = 124 := by
      have := byteAt_app_r (s.extract 0 (j + 1)) ⟨#[124]⟩ 0
      have hsz := size_ext s (a := 0) (n := j + 1) (by omega)
      rw [Nat.zero_add] at hsz
      rw [hsz, Nat.add_zero] at this
      rw [this]
      rfl
    obtain ⟨t, ht⟩ : ∃ t, t = s.extract 0 (j + 1) ++ ⟨#[124]⟩ := ⟨_, rfl⟩
    rw [← ht] at ha hz hx97
    have tok' := tok ⟨#[124]⟩ (by omega) (by omega)
    rw [← ht] at tok' ⊢
    have e0 := ha.eq j (by omega)
    rw [Nat.zero_add, h1] at e0
    have hsg : signL t j = 2 := by
      unfold signL
      rw [← e0, hx97, if_pos ⟨by omega, by decide⟩]
    refine tok' _ 2 (by omega) ⟨oneS_of (.sign (by rw [← e0]; decide) (by rw [← e0]; decide) (by rw [← e0]; decide) hsg (by decide) rfl), comm_ne (by rw [← e0]; decide), by rw [← e0]; decide, by omega⟩ (by omega)
  | sign h1 h2 h3 h4 h5 h6 =>
    subst h6
    refine ⟨trivial, by omega, Or.inl ?_⟩
    obtain ⟨ha, hz⟩ := put ByteArray.empty (by omega) (by omega)
    rw [lexS_small (by omega), hgo _ ha (Or.inl (by omega)), lexG_end (by omega)]
/-- WITH THE BYTE IT DOES NOT, whatever stands behind. -/
theorem goes_stay {s : ByteArray} (hs : s.size ≤ 16384) (h : (lexS s).2.2 ≠ 0) (hp : (lexS s).2.1 < s.size) (x : ByteArray) (hx : x.size ≤ 16384) :
    lexS (s.extract 0 ((lexS s).2.1 + 1) ++ x) = ([], (lexS s).2.1, 20) := by
  rw [lexS_small (s := s) (by omega)] at h hp ⊢
  obtain ⟨j, L, -, hj, hb, ho, hlex, hgo⟩ := stuck_of s _ 0 (by omega) h
  have hst := stuckC_of ho
  rw [show lexG s 0 [] = ([], (oneS s j).2.1, 20) from hlex] at hp ⊢
  clear hlex h ho
  simp only at hp ⊢
  generalize (oneS s j).2.1 = p at hst hp ⊢
  have ha := ag_pre s (n := p + 1) (by omega) x
  have hz : (s.extract 0 (p + 1) ++ x).size = p + 1 + x.size := by
    have := size_ext s (a := 0) (n := p + 1) (by omega)
    rw [Nat.zero_add] at this
    rw [ByteArray.size_append, this]
  obtain ⟨t, ht⟩ : ∃ t, t = s.extract 0 (p + 1) ++ x := ⟨_, rfl⟩
  rw [← ht] at ha hz ⊢
  have fin : j ≤ p → byteAt s j ≠ 47 → (oneS t j).2 = (p, false) → lexS t = ([], p, 20) := by
    intro hjp h47 hone
    have e := ha.eq j (by omega)
    rw [Nat.zero_add] at e
    rw [lexS_small (by omega), hgo t (ha.less (by omega)) (Or.inr ⟨by omega, e.symm⟩), lexG_bad (by omega) (by rw [← e]; exact hb) (comm_ne (by rw [← e]; exact h47)) (by rw [hone]), hone]
  have at_ : ∀ k, k ≤ p → byteAt s k = byteAt t k := fun k hk => by
    have e := ha.eq k (by omega)
    rw [Nat.zero_add] at e
    exact e
  have sh : ∀ k, k ≤ p → Ag s k t k (p - k + 1) := fun k hk => by
    have := ha.shift k (by omega)
    rw [Nat.zero_add, show p + 1 - k = p - k + 1 by omega] at this
    exact this
  cases hst with
  | name h1 h2 =>
    obtain ⟨c1, c2, c3⟩ := letter_plain h1
    have hl := nameE_lt (g := greatB (byteAt s j)) hj c2 c3
    rw [h2] at hl
    simp only at hl
    refine fin (by omega) c1 ?_
    have hn := nameE_bad (g := greatB (byteAt s j)) (sh j (by omega)) (by rw [h2]; congr 1; omega)
    rw [show j + (p - j) = p by omega] at hn
    unfold oneS
    simp only
    rw [← at_ j (by omega), if_pos h1, hn, if_neg (by simp)]
  | num h1 h2 r h3 =>
    have hl := numE_lt hj h2
    rw [h3] at hl
    simp only at hl
    refine fin (by omega) (fun h47 => by rw [h47] at h2; exact absurd h2 (by decide)) ?_
    have hn := numE_bad (r := r) (sh j (by omega)) (by rw [h3]; congr 1; omega)
    rw [show j + (p - j) = p by omega] at hn
    unfold oneS
    simp only
    rw [← at_ j (by omega), h1, if_neg (by decide), if_pos h2, hn, if_neg (by simp)]
  | life h1 h2 h3 q h4 h5 =>
    have hl := nameE_lt (g := false) h2 (row_of_small h3) (by rw [small_not_great h3]; rfl)
    have hl' := hl
    rw [h4] at hl
    simp only at hl
    refine fin (by omega) (by rw [h1]; decide) ?_
    have e39 : (smallB 39 || greatB 39) = false ∧ digitB 39 = false := by decide
    unfold oneS
    simp only
    rw [← at_ j (by omega), h1, e39.1, e39.2, if_neg (by decide), if_neg (by decide), if_pos rfl, if_pos ⟨by omega, by rw [← at_ (j + 1) (by omega)]; exact h3⟩]
    cases q with
    | false =>
      have hn := nameE_bad (g := false) (sh (j + 1) (by omega)) (by rw [h4]; congr 1; omega)
      rw [show j + 1 + (p - (j + 1)) = p by omega] at hn
      rw [hn, if_neg (by simp)]
    | true =>
      have hstop := nameE_stop (by omega) h4
      have hcut := (sh (j + 1) (by omega)).less (m := p - (j + 1)) (by omega)
      have hrow : rowB (byteAt t p) = false := by
        rcases hstop with h | h
        · omega
        · rw [← at_ p (by omega)]; exact h.2
      have hn := nameE_cut (g := false) (q := true) hcut (Or.inr (by rw [show j + 1 + (p - (j + 1)) = p by omega]; exact hrow)) (by rw [h4]; congr 1; omega)
      have hx1 := hcut.ext
      rw [show j + 1 + (p - (j + 1)) = p by omega] at hn hx1
      rw [hn]
      simp only
      rw [← hx1, h5 rfl, if_neg (by simp)]
  | quote h1 h2 h3 =>
    subst h3
    refine fin (by omega) (by rw [h1]; decide) ?_
    have e39 : (smallB 39 || greatB 39) = false ∧ digitB 39 = false := by decide
    unfold oneS
    simp only
    rw [← at_ j (by omega), h1, e39.1, e39.2, if_neg (by decide), if_neg (by decide), if_pos rfl, if_neg]
    rintro ⟨d1, d2⟩
    rw [← at_ (j + 1) (by omega)] at d2
    exact h2 ⟨by omega, d2⟩
  | bar h1 h2 h3 =>
    subst h3
    refine fin (by omega) (by rw [h1]; decide) ?_
    have e1 : (smallB 124 || greatB 124) = false ∧ digitB 124 = false := by decide
    have hsg : signL t j = 0 := by
      have ho : ones.contains 124 = false := by decide
      unfold signL at h2 ⊢
      rw [h1] at h2
      rw [← at_ j (by omega), ← at_ (j + 1) (by omega), h1, ho]
      rw [if_neg, if_neg (by simp)]
      rintro ⟨d1, d2⟩
      rw [if_pos ⟨by omega, d2⟩] at h2
      cases h2
    unfold oneS
    simp only
    rw [← at_ j (by omega), h1, e1.1, e1.2, if_neg (by decide), if_neg (by decide), if_neg (by decide), hsg, if_pos rfl, if_pos rfl]
  | sign h1 h2 h3 h4 h5 h6 =>
    subst h6
    have hones : ones.contains (byteAt s p) = false := by
      cases hc : ones.contains (byteAt s p)
      · rfl
      · unfold signL at h5
        split at h5
        · cases h5
        · rw [hc, if_pos ⟨hj, rfl⟩] at h5; cases h5
    have hne : ∀ m ∈ ones, byteAt s p ≠ m := fun m hm h => by
      rw [List.contains_eq_mem, decide_eq_false_iff_not] at hones
      exact hones (h ▸ hm)
    refine fin (Nat.le_refl _) (hne 47 (by decide)) ?_
    have htwo : ∀ d, twoB (byteAt s p) d = false := by
      intro d
      have k1 := hne 45 (by decide)
      have k2 := hne 61 (by decide)
      have k3 := hne 33 (by decide)
      have k4 := hne 60 (by decide)
      have k5 := hne 62 (by decide)
      have k6 := hne 38 (by decide)
      unfold twoB
      simp [k1, k2, k3, k4, k5, k6, h4]
    have hsg : signL t p = 0 := by
      unfold signL
      rw [← at_ p (by omega), htwo, hones, if_neg (by simp), if_neg (by simp)]
    unfold oneS
    simp only
    rw [← at_ p (by omega), h1, h2, if_neg (by decide), if_neg (by decide), if_neg h3, hsg, if_pos rfl, if_neg h4]
end Go.Proofs.YtcbifoimfhfccaaDoor

/- A token's text; which tokens may be; what stands in a text may be. Plain. -/
import Derived.Test.YtcbifoimfhfccaaGreatDoorLexT
import Derived.Test.YtcbifoimfhfccaaGreatDoorLexR
import Derived.Lib.IndexMore
import Derived.Lib.Index
import Derived.Lib.ItoaMem
import Derived.Lib.ItoaLen
namespace Go.Proofs.YtcbifoimfhfccaaGreatDoor

theorem len_size (x : ByteArray) : x.data.toList.length = x.size := by simp
def textS (t : Tk) : ByteArray := if t.k = 4 then ⟨#[39]⟩ ++ t.s else if t.k = 5 then ⟨(Lib.itoa t.n).toArray⟩ else t.s
def mayS (t : Tk) : Bool := decide (0 ≤ t.at_) && decide ((textS t).size ≤ 64) && likeB (textS t) [t] && !blankB (byteAt (textS t) 0) && !blankB (byteAt (textS t) ((textS t).size - 1)) && !Lib.contains (textS t).data.toList [47, 47]
theorem sameK_iff {x y : Tk} : sameK x y = true ↔ x.k = y.k ∧ x.n = y.n ∧ x.s = y.s := by
  unfold sameK
  simp only [Bool.and_eq_true, decide_eq_true_eq]
  exact ⟨fun ⟨⟨a, b⟩, c⟩ => ⟨a, b, c⟩, fun ⟨a, b, c⟩ => ⟨⟨a, b⟩, c⟩⟩
theorem textS_same {x y : Tk} (h : sameK x y = true) : textS x = textS y := by
  obtain ⟨h1, h2, h3⟩ := sameK_iff.1 h
  unfold textS
  rw [h1, h2, h3]
theorem same_at {x y : Tk} (h : sameK x y = true) : { x with at_ := 0 } = { y with at_ := 0 } := by
  obtain ⟨h1, h2, h3⟩ := sameK_iff.1 h
  rw [h1, h2, h3]
theorem sameK_at (x : Tk) (a : Int) : sameK { x with at_ := a } x = true := sameK_iff.2 ⟨rfl, rfl, rfl⟩
theorem eqK_nil : eqK sameK [] [] = true := rfl
theorem eqK_cons {x y : Tk} {a b : List Tk} : eqK sameK (x :: a) (y :: b) = true ↔ sameK x y = true ∧ eqK sameK a b = true := by
  rw [eqK_iff, eqK_iff]
  constructor
  · rintro ⟨h1, h2⟩
    exact ⟨h2 0 (by simp), by simpa using h1, fun i hi => h2 (i + 1) (by simpa using hi)⟩
  · rintro ⟨h1, h2, h3⟩
    refine ⟨by simpa using h2, fun i hi => ?_⟩
    cases i with
    | zero => exact h1
    | succ i => exact h3 i (by simpa using hi)
theorem cont_two (l : List UInt8) : Lib.contains l [47, 47] = true ↔ ∃ k, k + 1 < l.length ∧ l.getD k 0 = 47 ∧ l.getD (k + 1) 0 = 47 := by
  unfold Lib.contains
  rw [decide_eq_true_iff]
  induction l with
  | nil => simp [Lib.index]
  | cons b l ih =>
    have hge := Lib.index_ge l [47, 47]
    unfold Lib.index
    by_cases hp : ([47, 47] : List UInt8).isPrefixOf (b :: l) = true
    · rw [if_pos hp]
      refine ⟨fun _ => ?_, fun _ => by omega⟩
      cases l with
      | nil => simp [List.isPrefixOf] at hp
      | cons c l =>
        simp [List.isPrefixOf] at hp
        exact ⟨0, by simp, by simp [hp.1], by simp [hp.2]⟩
    · rw [if_neg hp]
      have e : (0 ≤ (if (Lib.index l [47, 47] == -1) = true then (-1 : Int) else Lib.index l [47, 47] + 1)) ↔ 0 ≤ Lib.index l [47, 47] := by
        by_cases h : Lib.index l [47, 47] = -1
        · rw [if_pos (by simp [h]), h]
        · rw [if_neg (by simp [h])]
          omega
      rw [e, ih]
      constructor
      · rintro ⟨k, h1, h2, h3⟩; exact ⟨k + 1, by simpa using h1, h2, h3⟩
      · rintro ⟨k, h1, h2, h3⟩
        cases k with
        | zero =>
          exfalso
          apply hp
          cases l with
          | nil => simp at h1
          | cons c l =>
            have q1 : b = 47 := h2
            have q2 : c = 47 := h3
            rw [q1, q2]; rfl
        | succ k => exact ⟨k, by simpa using h1, h2, h3⟩
theorem comm_cont {s : ByteArray} (h : Lib.contains s.data.toList [47, 47] = false) (k : Nat) : commB s k = false := by
  apply commB_mk
  rintro ⟨h1, h2, h3⟩
  have : Lib.contains s.data.toList [47, 47] = true := (cont_two _).2 ⟨k, by simpa using h1, UInt8.toNat_inj.1 h2, UInt8.toNat_inj.1 h3⟩
  rw [this] at h
  cases h
theorem row_plain {c : Nat} (h : rowB c = true) : blankB c = false ∧ c ≠ 47 := by
  cases hb : blankB c
  · refine ⟨rfl, fun h2 => ?_⟩
    subst h2
    exact absurd h (by decide)
  · rw [blank_not_row hb] at h; cases h
theorem TokAt.bytes {s : ByteArray} {i : Nat} {t : Tk} {n : Nat} (h : TokAt s i t n) : ∀ k, k < n → blankB (byteAt s (i + k)) = false ∧ (k + 1 < n → ¬ (byteAt s (i + k) = 47 ∧ byteAt s (i + k + 1) = 47)) := by
  intro k hk
  have hp := h.pos
  have rows : rowB (byteAt s (i + k)) = true → blankB (byteAt s (i + k)) = false ∧ (k + 1 < n → ¬ (byteAt s (i + k) = 47 ∧ byteAt s (i + k + 1) = 47)) := fun hr => ⟨(row_plain hr).1, fun _ h2 => (row_plain hr).2 h2.1⟩
  cases oneC_of h.one with
  | name h1 h2 h3 => exact rows (nameF_rows (s.size - i) i (i + k) (by omega) (by have := congrArg Prod.fst h2; unfold nameE at this; rw [this]; show i + k < i + n; omega)).1
  | num h1 h2 r h3 h4 => exact rows (row_of_digit (numF_rows (s.size - i) i 0 (i + k) (by omega) (by have := congrArg Prod.fst h3; unfold numE at this; rw [this]; show i + k < i + n; omega)))
  | life h1 h2 h3 h4 h5 h6 =>
    rcases Nat.eq_zero_or_pos k with rfl | hk0
    · rw [Nat.add_zero, h1]
      exact ⟨by decide, fun _ h => absurd h.1 (by decide)⟩
    · exact rows (nameF_rows (s.size - (i + 1)) (i + 1) (i + k) (by omega) (by have := congrArg Prod.fst h4; unfold nameE at this; rw [this]; show i + k < i + n; omega)).1
  | sign h1 h2 h3 h4 h5 h6 =>
    have hle := (signL_le h.lt).2
    rcases Nat.eq_zero_or_pos k with rfl | hk0
    · refine ⟨h.blank, fun hn hq => ?_⟩
      have := commB_no h.comm
      exact this ⟨by omega, hq.1, hq.2⟩
    · obtain rfl : k = 1 := by omega
      refine ⟨?_, fun hn => by omega⟩
      cases hb : blankB (byteAt s (i + 1))
      · rfl
      · unfold signL at h4
        rw [blank_not_two hb] at h4
        rw [if_neg (by simp)] at h4
        split at h4 <;> omega
theorem TokAt.text {s : ByteArray} {i : Nat} {t : Tk} {n : Nat} (h : TokAt s i t n) : textS t = s.extract i (i + n) := by
  have hp := h.pos
  unfold textS
  cases oneC_of h.one with
  | name h1 h2 h3 =>
    rw [h3]
    simp only
    have hk : ∀ {b c : Bool}, (if b = true then 1 else if c = true then 3 else 2) ≠ 4 ∧ (if b = true then 1 else if c = true then 3 else 2) ≠ 5 := by intro b c; cases b <;> cases c <;> decide
    rw [if_neg hk.1, if_neg hk.2]
  | num h1 h2 r h3 h4 =>
    rw [h4]
    simp only
    rw [if_neg (by decide), if_pos trivial]
    apply ByteArray.ext
    apply Array.toList_inj.1
    rw [(numE_dec h.lt h2 h3).1, Lib.itoa_nonneg]
  | life h1 h2 h3 h4 h5 h6 =>
    rw [h6]
    simp only
    rw [if_pos trivial]
    have hn := nameE_lt (g := false) h2 (row_of_small h3) (by rw [small_not_great h3]; rfl)
    rw [h4] at hn
    simp only at hn
    have z1 : (s.extract (i + 1) (i + n)).size = n - 1 := by rw [ByteArray.size_extract]; omega
    have z0 : (⟨#[39]⟩ : ByteArray).size = 1 := rfl
    refine bytes_eq (by rw [ByteArray.size_append, z1, size_ext s hp.2, z0]; omega) fun k hk => ?_
    rw [ByteArray.size_append, z1, z0] at hk
    rw [byteAt_ext _ _ _ _ (by omega)]
    rcases Nat.eq_zero_or_pos k with rfl | hk0
    · rw [byteAt_app_l _ _ (by decide), Nat.add_zero, h1]; rfl
    · rw [show k = (⟨#[39]⟩ : ByteArray).size + (k - 1) by rw [z0]; omega, byteAt_app_r, byteAt_ext _ _ _ _ (by omega), z0]
      congr 1
      omega
  | sign h1 h2 h3 h4 h5 h6 =>
    rw [h6]
    rfl
theorem TokAt.len {s : ByteArray} {i : Nat} {t : Tk} {n : Nat} (h : TokAt s i t n) : n ≤ 33 := by
  have hp := h.pos
  cases oneC_of h.one with
  | name h1 h2 h3 => have := nameE_len (s := s) (b := i) (g := greatB (byteAt s i)); rw [h2] at this; simp only at this; omega
  | num h1 h2 r h3 h4 =>
    have hd := numE_dec h.lt h2 h3
    have hl := Lib.itoa_length_le (r : Int) (by omega) (by omega)
    rw [Lib.itoa_nonneg, ← hd.1] at hl
    have hz := size_ext s hp.2
    have := len_size (s.extract i (i + n))
    omega
  | life h1 h2 h3 h4 h5 h6 => have := nameE_len (s := s) (b := i + 1) (g := false); rw [h4] at this; simp only at this; omega
  | sign h1 h2 h3 h4 h5 h6 => have := (signL_le h.lt).2; omega
theorem lexS_small {s : ByteArray} (h : s.size ≤ 65536) : lexS s = lexG s 0 [] := by unfold lexS; rw [if_neg (by omega)]
theorem lexS_ok {s : ByteArray} (h : (lexS s).2.2 = 0) : s.size ≤ 65536 ∧ lexS s = lexG s 0 [] := by
  rcases Nat.lt_or_ge 65536 s.size with h1 | h1
  · unfold lexS at h; rw [if_pos h1] at h; cases h
  · exact ⟨h1, lexS_small h1⟩
theorem tok_may {s : ByteArray} {i : Nat} {t : Tk} {n : Nat} (h : TokAt s i t n) : mayS t = true := by
  have hp := h.pos
  have hz := size_ext s hp.2
  have hx := h.move (ag_ext s hp.2) (Or.inl (by omega))
  have hlen := h.len
  have hb := h.bytes
  have hat := h.place
  unfold mayS
  rw [h.text]
  have hlex : lexS (s.extract i (i + n)) = ([{ t with at_ := 0 }], 0, 0) := by
    rw [lexS_small (by omega), lexG_tok hx, lexG_end (by omega)]
    rfl
  have hlike : likeB (s.extract i (i + n)) [t] = true := by
    unfold likeB
    rw [hlex]
    simp only [decide_true, Bool.true_and]
    exact eqK_cons.2 ⟨sameK_at t 0, eqK_nil⟩
  have hcont : Lib.contains (s.extract i (i + n)).data.toList [47, 47] = false := by
    cases hc : Lib.contains (s.extract i (i + n)).data.toList [47, 47]
    · rfl
    · obtain ⟨k, h1, h2, h3⟩ := (cont_two _).1 hc
      have hl : (s.extract i (i + n)).data.toList.length = n := (len_size _).trans hz
      have e2 : byteAt (s.extract i (i + n)) k = 47 := by unfold byteAt; rw [h2]; rfl
      have e3 : byteAt (s.extract i (i + n)) (k + 1) = 47 := by unfold byteAt; rw [h3]; rfl
      rw [byteAt_ext _ _ _ _ (by omega)] at e2 e3
      exact absurd ⟨e2, e3⟩ ((hb k (by omega)).2 (by omega))
  have hlast : blankB (byteAt (s.extract i (i + n)) ((s.extract i (i + n)).size - 1)) = false := by
    rw [hz, byteAt_ext _ _ _ _ (by omega)]
    exact (hb (n - 1) (by omega)).1
  have hfirst : blankB (byteAt (s.extract i (i + n)) 0) = false := by
    rw [byteAt_ext _ _ _ _ (by omega)]
    exact h.blank
  rw [hlike, hcont, hlast, hfirst, decide_eq_true (by omega), decide_eq_true (by omega)]
  rfl
theorem rest_blank {x : ByteArray} (hc : ∀ k, commB x k = false) : ∀ f i, x.size < i + f → (lexF x f i []).2.2 = 0 → (lexF x f i []).1 = [] → ∀ k, i ≤ k → k < x.size → blankB (byteAt x k) = true := by
  intro f
  induction f with
  | zero => intro i hf _ _ k h1 h2; omega
  | succ f ih =>
    intro i hf h0 h1 k hk hkx
    unfold lexF at h0 h1
    rw [if_pos (by omega)] at h0 h1
    by_cases hb : blankB (byteAt x i) = true
    · rw [if_pos hb] at h0 h1
      rcases Nat.lt_or_eq_of_le hk with h | rfl
      · exact ih (i + 1) (by omega) h0 h1 k h hkx
      · exact hb
    · rw [if_neg hb, hc i, if_neg (by decide)] at h0 h1
      by_cases ho : (oneS x i).2.2 = true
      · rw [if_pos ho, lexF_acc] at h0 h1
        by_cases hz : (lexF x f (oneS x i).2.1 []).2.2 = 0
        · rw [if_pos hz] at h1; simp at h1
        · rw [if_neg hz] at h0; exact absurd h0 hz
      · rw [if_neg ho] at h0; cases h0
/-- What may be is a token that fills its text. -/
theorem may_own {t : Tk} (h : mayS t = true) : TokAt (textS t) 0 { t with at_ := 0 } (textS t).size := by
  unfold mayS at h
  generalize hx : textS t = x at h
  simp only [Bool.and_eq_true, Bool.not_eq_true', decide_eq_true_eq] at h
  obtain ⟨⟨⟨⟨⟨ha, hsz⟩, hlike⟩, hfirst⟩, hlast⟩, hcont⟩ := h
  have hc := comm_cont hcont
  unfold likeB at hlike
  rw [Bool.and_eq_true, decide_eq_true_iff, lexS_small (by omega)] at hlike
  obtain ⟨h0, h1⟩ := hlike
  have hpos : 0 < x.size := by
    rcases Nat.eq_zero_or_pos x.size with hz | hz
    · rw [lexG_end (by omega)] at h1; exact absurd (eqK_iff.1 h1).1 (by simp)
    · exact hz
  have ho : (oneS x 0).2.2 = true := by
    cases hq : (oneS x 0).2.2
    · rw [lexG_bad hpos hfirst (hc 0) hq] at h0; cases h0
    · rfl
  rw [lexG_one hpos hfirst (hc 0) ho, lexG_acc] at h0 h1
  have hl := oneS_lt hpos ho
  by_cases hz : (lexG x (oneS x 0).2.1 []).2.2 = 0
  · rw [if_pos hz] at h1
    simp only [List.nil_append, List.singleton_append] at h1
    have h2 := eqK_cons.1 h1
    have hnil : (lexG x (oneS x 0).2.1 []).1 = [] := List.eq_nil_of_length_eq_zero (by have := (eqK_iff.1 h2.2).1; simpa using this)
    have hend : (oneS x 0).2.1 = x.size := by
      rcases Nat.lt_or_ge (oneS x 0).2.1 x.size with h3 | h3
      · have := rest_blank hc _ (oneS x 0).2.1 (by omega) hz hnil (x.size - 1) (by omega) (by omega)
        rw [this] at hlast; cases hlast
      · omega
    have hone : TokAt x 0 (oneS x 0).1 x.size := ⟨by rw [Nat.zero_add, ← hend, ← ho], hc 0, hfirst, hpos⟩
    have hp := hone.place
    have : { t with at_ := (0 : Int) } = (oneS x 0).1 := by
      rw [← same_at h2.1]
      generalize (oneS x 0).1 = u at hp ⊢
      obtain ⟨a, b, c, d⟩ := u
      simp only at hp
      subst hp
      rfl
    rw [this]
    exact hone
  · rw [if_neg hz] at h0; exact absurd h0 hz
theorem may_size {t : Tk} (h : mayS t = true) : 0 < (textS t).size ∧ (textS t).size ≤ 64 := by
  refine ⟨(may_own h).pos.1, ?_⟩
  unfold mayS at h
  simp only [Bool.and_eq_true, Bool.not_eq_true', decide_eq_true_eq] at h
  exact h.1.1.1.1.2
/-- Two texts that, put together, are lexed as just the two: the first is not made longer. -/
theorem like_two {p t : Tk} (hp : mayS p = true) (ht : mayS t = true) (h : likeB (textS p ++ textS t) [p, t] = true) : TokAt (textS p ++ textS t) 0 { p with at_ := 0 } (textS p).size := by
  have op := may_own hp
  have ot := may_own ht
  have zp := may_size hp
  have zt := may_size ht
  have ha := ag_left (textS p) (textS t)
  have hr := ag_right (textS p) (textS t)
  obtain ⟨y, hy⟩ : ∃ y, y = textS p ++ textS t := ⟨_, rfl⟩
  rw [← hy] at h ha hr ⊢
  have hysz : y.size = (textS p).size + (textS t).size := by rw [hy, ByteArray.size_append]
  have e0 := ha.eq 0 zp.1
  rw [Nat.zero_add] at e0
  have hblank : blankB (byteAt y 0) = false := by rw [← e0]; exact op.blank
  unfold likeB at h
  rw [Bool.and_eq_true, decide_eq_true_iff, lexS_small (by omega)] at h
  obtain ⟨h0, h1⟩ := h
  have slash : ∀ {q : Tk}, TokAt (textS q) 0 { q with at_ := 0 } (textS q).size → byteAt (textS q) 0 = 47 → (textS q).size = 1 := by
    intro q hq h47
    cases oneC_of hq.one with
    | name g1 g2 g3 => rw [h47] at g1; exact absurd g1 (by decide)
    | num g1 g2 r g3 g4 => rw [h47] at g2; exact absurd g2 (by decide)
    | life g1 g2 g3 g4 g5 g6 => rw [h47] at g1; exact absurd g1 (by decide)
    | sign g1 g2 g3 g4 g5 g6 =>
      have ht : ∀ d, twoB 47 d = false := fun d => by unfold twoB; simp
      unfold signL at g4
      rw [h47, ht, if_neg (by simp)] at g4
      split at g4
      · exact g4.symm
      · exact absurd g4.symm g5
  have hcomm : commB y 0 = false := by
    apply commB_mk
    rintro ⟨c1, c2, c3⟩
    have s1 := slash op (by rw [e0]; exact c2)
    have e1 := hr.eq 0 zt.1
    rw [s1] at e1
    have s2 := slash ot (by rw [e1]; exact c3)
    have hl : lineE y 0 = 2 := by
      unfold lineE
      rw [show y.size - 0 = 1 + 1 by omega]
      unfold lineF
      rw [c2, if_neg (by decide)]
      unfold lineF
      rw [c3, if_neg (by decide)]
      rfl
    rw [lexG_comm (by omega) hblank (commB_iff.2 ⟨c1, c2, c3⟩), hl, lexG_end (by omega)] at h1
    exact absurd (eqK_iff.1 h1).1 (by simp)
  have hpos : 0 < y.size := by omega
  have ho : (oneS y 0).2.2 = true := by
    cases hq : (oneS y 0).2.2
    · rw [lexG_bad hpos hblank hcomm hq] at h0; cases h0
    · rfl
  have hl := oneS_lt hpos ho
  have hone : TokAt y 0 (oneS y 0).1 (oneS y 0).2.1 := ⟨by rw [Nat.zero_add, ← ho], hcomm, hblank, hpos⟩
  rw [lexG_one hpos hblank hcomm ho, lexG_acc] at h0 h1
  by_cases hz : (lexG y (oneS y 0).2.1 []).2.2 = 0
  · rw [if_pos hz] at h1
    simp only [List.nil_append, List.singleton_append] at h1
    have h2 := (eqK_cons.1 h1).1
    have ht2 := hone.text
    rw [textS_same h2] at ht2
    have hsz : (textS p).size = (oneS y 0).2.1 := by rw [ht2, size_ext y hone.pos.2]
    have hpl := hone.place
    have : { p with at_ := (0 : Int) } = (oneS y 0).1 := by
      rw [← same_at h2]
      generalize (oneS y 0).1 = u at hpl ⊢
      obtain ⟨a, b, c, d⟩ := u
      simp only at hpl
      subst hpl
      rfl
    rw [this, hsz]
    exact hone
  · rw [if_neg hz] at h0; exact absurd h0 hz
end Go.Proofs.YtcbifoimfhfccaaGreatDoor

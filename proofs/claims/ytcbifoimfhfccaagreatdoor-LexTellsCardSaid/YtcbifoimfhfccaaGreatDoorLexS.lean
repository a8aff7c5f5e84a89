/- Lexing is local: what stands at a place is lexed alike wherever it stands. Plain. -/
import Derived.Test.YtcbifoimfhfccaaGreatDoorLexA
import Derived.Lib.ItoaNum
import Derived.Lib.Strings
namespace Go.Proofs.YtcbifoimfhfccaaGreatDoor

/-- Two texts agree on n bytes from two places on. -/
structure Ag (s : ByteArray) (i : Nat) (t : ByteArray) (j n : Nat) : Prop where
  l : i + n ≤ s.size
  r : j + n ≤ t.size
  eq : ∀ k, k < n → byteAt s (i + k) = byteAt t (j + k)
theorem Ag.less {s t : ByteArray} {i j n m : Nat} (h : Ag s i t j n) (hm : m ≤ n) : Ag s i t j m := ⟨by have := h.l; omega, by have := h.r; omega, fun k hk => h.eq k (by omega)⟩
theorem Ag.shift {s t : ByteArray} {i j n : Nat} (h : Ag s i t j n) (m : Nat) (hm : m ≤ n) : Ag s (i + m) t (j + m) (n - m) := ⟨by have := h.l; omega, by have := h.r; omega, fun k hk => by have := h.eq (m + k) (by omega); rw [Nat.add_assoc, Nat.add_assoc]; exact this⟩
theorem Ag.symm {s t : ByteArray} {i j n : Nat} (h : Ag s i t j n) : Ag t j s i n := ⟨h.r, h.l, fun k hk => (h.eq k hk).symm⟩
theorem Ag.trans {s t u : ByteArray} {i j k n : Nat} (h : Ag s i t j n) (h2 : Ag t j u k n) : Ag s i u k n := ⟨h.l, h2.r, fun a ha => (h.eq a ha).trans (h2.eq a ha)⟩
theorem byteAt_ext (s : ByteArray) (a b k : Nat) (hk : k < b - a) : byteAt (s.extract a b) k = byteAt s (a + k) := by
  unfold byteAt
  rw [Lib.extract_data, List.getD_eq_getElem?_getD, List.getD_eq_getElem?_getD, List.getElem?_take_of_lt hk, List.getElem?_drop]
theorem size_ext (s : ByteArray) {a n : Nat} (h : a + n ≤ s.size) : (s.extract a (a + n)).size = n := by
  rw [ByteArray.size_extract]; omega
theorem bytes_eq {s t : ByteArray} (hz : s.size = t.size) (h : ∀ k, k < s.size → byteAt s k = byteAt t k) : s = t := by
  have e1 : s.size = s.data.toList.length := by simp
  have e2 : t.size = t.data.toList.length := by simp
  apply ByteArray.ext
  apply Array.toList_inj.1
  apply List.ext_getElem (by omega)
  intro i h1 h2
  have := h i (by omega)
  unfold byteAt at this
  rw [List.getD_eq_getElem?_getD, List.getD_eq_getElem?_getD, List.getElem?_eq_getElem h1, List.getElem?_eq_getElem h2] at this
  exact UInt8.toNat_inj.1 this
theorem Ag.ext {s t : ByteArray} {i j n : Nat} (h : Ag s i t j n) : s.extract i (i + n) = t.extract j (j + n) := by
  have z1 := size_ext s h.l
  have z2 := size_ext t h.r
  refine bytes_eq (by omega) fun k hk => ?_
  rw [byteAt_ext _ _ _ _ (by omega), byteAt_ext _ _ _ _ (by omega)]
  exact h.eq k (by omega)
theorem ag_ext (s : ByteArray) {i n : Nat} (h : i + n ≤ s.size) : Ag s i (s.extract i (i + n)) 0 n :=
  ⟨h, by rw [size_ext s h]; omega, fun k hk => by rw [Nat.zero_add, byteAt_ext _ _ _ _ (by omega)]⟩
theorem ag_pre (s : ByteArray) {n : Nat} (h : n ≤ s.size) (x : ByteArray) : Ag s 0 (s.extract 0 n ++ x) 0 n := by
  have hz : (s.extract 0 n).size = n := by have := size_ext s (a := 0) (n := n) (by omega); simpa using this
  refine ⟨by omega, by rw [ByteArray.size_append]; omega, fun k hk => ?_⟩
  have e : byteAt (s.extract 0 n ++ x) (0 + k) = byteAt (s.extract 0 n) k := by
    unfold byteAt
    have hl : k < (s.extract 0 n).data.toList.length := by simpa using (by omega : k < (s.extract 0 n).size)
    rw [ByteArray.data_append, Array.toList_append, List.getD_eq_getElem?_getD, List.getD_eq_getElem?_getD, Nat.zero_add, List.getElem?_append_left hl]
  rw [e, byteAt_ext _ _ _ _ (by omega)]
theorem byteAt_app_l (a b : ByteArray) {k : Nat} (h : k < a.size) : byteAt (a ++ b) k = byteAt a k := by
  unfold byteAt
  have hl : k < a.data.toList.length := by simpa using h
  rw [ByteArray.data_append, Array.toList_append, List.getD_eq_getElem?_getD, List.getD_eq_getElem?_getD, List.getElem?_append_left hl]
theorem byteAt_app_r (a b : ByteArray) (k : Nat) : byteAt (a ++ b) (a.size + k) = byteAt b k := by
  unfold byteAt
  have hl : a.data.toList.length = a.size := by simp
  rw [ByteArray.data_append, Array.toList_append, List.getD_eq_getElem?_getD, List.getD_eq_getElem?_getD, List.getElem?_append_right (by omega), hl, Nat.add_sub_cancel_left]
theorem ag_left (a b : ByteArray) : Ag a 0 (a ++ b) 0 a.size := ⟨by omega, by rw [ByteArray.size_append]; omega, fun k hk => by rw [Nat.zero_add, byteAt_app_l a b hk]⟩
theorem ag_right (a b : ByteArray) : Ag b 0 (a ++ b) a.size b.size := ⟨by omega, by rw [ByteArray.size_append]; omega, fun k hk => by rw [Nat.zero_add, byteAt_app_r]⟩

/-- Names. -/
theorem nameF_cut {s t : ByteArray} {b c : Nat} {g : Bool} {n : Nat} {q : Bool} (ha : Ag s b t c n) (hl : c + n = t.size ∨ rowB (byteAt t (c + n)) = false) :
    ∀ f f' j, b + j + f = s.size → c + j + f' = t.size → nameF s b g f (b + j) = (b + n, q) → nameF t c g f' (c + j) = (c + n, true) := by
  have fin : ∀ f', c + n + f' = t.size → nameF t c g f' (c + n) = (c + n, true) := by
    intro f' hf
    cases f' with
    | zero => rfl
    | succ f' =>
      unfold nameF
      rcases hl with h | h
      · omega
      · rw [if_neg (by rw [h]; decide)]
  intro f
  induction f with
  | zero =>
    intro f' j h1 h2 h
    have e : b + j = b + n := congrArg Prod.fst h
    obtain rfl : j = n := by omega
    exact fin f' h2
  | succ f ih =>
    intro f' j h1 h2 h
    unfold nameF at h
    by_cases hr : rowB (byteAt s (b + j)) = true
    · rw [if_pos hr] at h
      by_cases hb : (greatB (byteAt s (b + j)) && !g || decide (b + j - b = 32)) = true
      · rw [if_pos hb] at h
        have e : b + j = b + n := congrArg Prod.fst h
        obtain rfl : j = n := by omega
        exact fin f' h2
      · rw [if_neg hb] at h
        have hle := (nameF_le s b g f (b + j + 1)).1
        rw [h] at hle
        simp only at hle
        have hj : j < n := by omega
        have hr' := ha.r
        cases f' with
        | zero => omega
        | succ f' =>
          unfold nameF
          rw [← ha.eq j hj, if_pos hr, if_neg (by rw [show c + j - c = b + j - b by omega]; exact hb)]
          exact ih f' (j + 1) (by omega) (by omega) h
    · rw [if_neg hr] at h
      have e : b + j = b + n := congrArg Prod.fst h
      obtain rfl : j = n := by omega
      exact fin f' h2
theorem nameE_cut {s t : ByteArray} {b c : Nat} {g : Bool} {n : Nat} {q : Bool} (ha : Ag s b t c n) (hl : c + n = t.size ∨ rowB (byteAt t (c + n)) = false) (h : nameE s b g = (b + n, q)) : nameE t c g = (c + n, true) := by
  have h1 := ha.l
  have h2 := ha.r
  exact nameF_cut ha hl (s.size - b) (t.size - c) 0 (by omega) (by omega) h
theorem nameF_bad {s t : ByteArray} {b c : Nat} {g : Bool} {n : Nat} (ha : Ag s b t c (n + 1)) :
    ∀ f f' j, c + j + f' = t.size → nameF s b g f (b + j) = (b + n, false) → nameF t c g f' (c + j) = (c + n, false) := by
  have hr' := ha.r
  intro f
  induction f with
  | zero => intro f' j h2 h; have := congrArg Prod.snd h; cases this
  | succ f ih =>
    intro f' j h2 h
    have hle := (nameF_le s b g (f + 1) (b + j)).1
    rw [h] at hle
    simp only at hle
    have hj : j < n + 1 := by omega
    unfold nameF at h
    cases f' with
    | zero => omega
    | succ f' =>
      unfold nameF
      rw [← ha.eq j hj]
      by_cases hr : rowB (byteAt s (b + j)) = true
      · rw [if_pos hr] at h ⊢
        rw [show c + j - c = b + j - b by omega]
        by_cases hb : (greatB (byteAt s (b + j)) && !g || decide (b + j - b = 32)) = true
        · rw [if_pos hb] at h ⊢
          have e : b + j = b + n := congrArg Prod.fst h
          obtain rfl : j = n := by omega
          rfl
        · rw [if_neg hb] at h ⊢
          exact ih f' (j + 1) (by omega) h
      · rw [if_neg hr] at h
        have := congrArg Prod.snd h
        cases this
theorem nameE_bad {s t : ByteArray} {b c : Nat} {g : Bool} {n : Nat} (ha : Ag s b t c (n + 1)) (h : nameE s b g = (b + n, false)) : nameE t c g = (c + n, false) := by
  have h2 := ha.r
  exact nameF_bad ha (s.size - b) (t.size - c) 0 (by omega) h
/-- What ends a name: the text, or a byte of no row; and what a name's bytes are. -/
theorem nameF_stop {s : ByteArray} {b : Nat} {g : Bool} : ∀ f i e, i + f = s.size → nameF s b g f i = (e, true) → e = s.size ∨ e < s.size ∧ rowB (byteAt s e) = false := by
  intro f
  induction f with
  | zero => intro i e hf h; left; have : i = e := congrArg Prod.fst h; omega
  | succ f ih =>
    intro i e hf h
    unfold nameF at h
    by_cases hr : rowB (byteAt s i) = true
    · rw [if_pos hr] at h
      split at h
      · have := congrArg Prod.snd h; cases this
      · exact ih (i + 1) e (by omega) h
    · rw [if_neg hr] at h
      have : i = e := congrArg Prod.fst h
      subst this
      exact Or.inr ⟨by omega, by simpa using hr⟩
theorem nameE_stop {s : ByteArray} {b e : Nat} {g : Bool} (hb : b ≤ s.size) (h : nameE s b g = (e, true)) : e = s.size ∨ e < s.size ∧ rowB (byteAt s e) = false := nameF_stop (s.size - b) b e (by omega) h
theorem nameF_rows {s : ByteArray} {b : Nat} {g : Bool} : ∀ f i k, i ≤ k → k < (nameF s b g f i).1 → rowB (byteAt s k) = true ∧ k - b ≠ 32 := by
  intro f
  induction f with
  | zero => intro i k h1 h2; exact absurd h2 (by show ¬ k < i; omega)
  | succ f ih =>
    intro i k h1 h2
    unfold nameF at h2
    by_cases hr : rowB (byteAt s i) = true
    · rw [if_pos hr] at h2
      by_cases hb : (greatB (byteAt s i) && !g || decide (i - b = 32)) = true
      · rw [if_pos hb] at h2; exact absurd h2 (by show ¬ k < i; omega)
      · rw [if_neg hb] at h2
        rcases Nat.lt_or_eq_of_le h1 with h | rfl
        · exact ih (i + 1) k h h2
        · refine ⟨hr, fun h3 => hb ?_⟩
          rw [decide_eq_true h3, Bool.or_true]
    · rw [if_neg hr] at h2; exact absurd h2 (by show ¬ k < i; omega)
theorem nameE_len {s : ByteArray} {b : Nat} {g : Bool} : (nameE s b g).1 ≤ b + 32 := by
  rcases Nat.lt_or_ge (b + 32) (nameE s b g).1 with h | h
  · exact absurd (by omega : b + 32 - b = 32) (nameF_rows (s.size - b) b (b + 32) (by omega) h).2
  · exact h

/-- Numbers. -/
theorem numF_cut {s t : ByteArray} {b c : Nat} {n r : Nat} {q : Bool} (ha : Ag s b t c n) (hl : c + n = t.size ∨ rowB (byteAt t (c + n)) = false) :
    ∀ f f' j v, b + j + f = s.size → c + j + f' = t.size → numF s b f (b + j) v = (b + n, r, q) → ∃ r', numF t c f' (c + j) v = (c + n, r', true) ∧ (q = true → r' = r) := by
  have fin : ∀ f' v, c + n + f' = t.size → numF t c f' (c + n) v = (c + n, v, true) := by
    intro f' v hf
    cases f' with
    | zero => rfl
    | succ f' =>
      unfold numF
      rcases hl with h | h
      · omega
      · rw [if_neg (by rw [h]; decide)]
  intro f
  induction f with
  | zero =>
    intro f' j v h1 h2 h
    have e : b + j = b + n := congrArg Prod.fst h
    have e2 : v = r := congrArg (fun x => x.2.1) h
    obtain rfl : j = n := by omega
    exact ⟨v, fin f' v h2, fun _ => e2⟩
  | succ f ih =>
    intro f' j v h1 h2 h
    unfold numF at h
    by_cases hr : rowB (byteAt s (b + j)) = true
    · rw [if_pos hr] at h
      by_cases hb : (!digitB (byteAt s (b + j)) || decide (b + j = b + 1) && decide (byteAt s b = 48) || decide ((9223372036854775807 - (byteAt s (b + j) - 48)) / 10 < v)) = true
      · rw [if_pos hb] at h
        have e : b + j = b + n := congrArg Prod.fst h
        have e2 : false = q := congrArg (fun x => x.2.2) h
        obtain rfl : j = n := by omega
        exact ⟨v, fin f' v h2, fun hq => by rw [hq] at e2; cases e2⟩
      · rw [if_neg hb] at h
        have hle := (numF_le s b f (b + j + 1) (10 * v + (byteAt s (b + j) - 48))).1
        rw [h] at hle
        simp only at hle
        have hj : j < n := by omega
        have hr' := ha.r
        cases f' with
        | zero => omega
        | succ f' =>
          unfold numF
          have hj1 := ha.eq j hj
          have hj0 := ha.eq 0 (by omega)
          rw [Nat.add_zero, Nat.add_zero] at hj0
          have e3 : decide (c + j = c + 1) = decide (b + j = b + 1) := by rw [decide_eq_decide]; omega
          rw [← hj1, ← hj0, e3, if_pos hr, if_neg hb]
          exact ih f' (j + 1) _ (by omega) (by omega) h
    · rw [if_neg hr] at h
      have e : b + j = b + n := congrArg Prod.fst h
      have e2 : v = r := congrArg (fun x => x.2.1) h
      obtain rfl : j = n := by omega
      exact ⟨v, fin f' v h2, fun _ => e2⟩
theorem numE_cut {s t : ByteArray} {b c : Nat} {n r : Nat} {q : Bool} (ha : Ag s b t c n) (hl : c + n = t.size ∨ rowB (byteAt t (c + n)) = false) (h : numE s b = (b + n, r, q)) : ∃ r', numE t c = (c + n, r', true) ∧ (q = true → r' = r) := by
  have h1 := ha.l
  have h2 := ha.r
  exact numF_cut ha hl (s.size - b) (t.size - c) 0 0 (by omega) (by omega) h
theorem numF_bad {s t : ByteArray} {b c : Nat} {n r : Nat} (ha : Ag s b t c (n + 1)) :
    ∀ f f' j v, c + j + f' = t.size → numF s b f (b + j) v = (b + n, r, false) → numF t c f' (c + j) v = (c + n, r, false) := by
  have hr' := ha.r
  intro f
  induction f with
  | zero => intro f' j v h2 h; have := congrArg (fun x => x.2.2) h; cases this
  | succ f ih =>
    intro f' j v h2 h
    have hle := (numF_le s b (f + 1) (b + j) v).1
    rw [h] at hle
    simp only at hle
    have hj : j < n + 1 := by omega
    unfold numF at h
    cases f' with
    | zero => omega
    | succ f' =>
      unfold numF
      have hj1 := ha.eq j hj
      have hj0 := ha.eq 0 (by omega)
      rw [Nat.add_zero, Nat.add_zero] at hj0
      have e3 : decide (c + j = c + 1) = decide (b + j = b + 1) := by rw [decide_eq_decide]; omega
      rw [← hj1, ← hj0, e3]
      by_cases hr : rowB (byteAt s (b + j)) = true
      · rw [if_pos hr] at h ⊢
        by_cases hb : (!digitB (byteAt s (b + j)) || decide (b + j = b + 1) && decide (byteAt s b = 48) || decide ((9223372036854775807 - (byteAt s (b + j) - 48)) / 10 < v)) = true
        · rw [if_pos hb] at h ⊢
          have e : b + j = b + n := congrArg Prod.fst h
          have e2 : 0 = r := congrArg (fun x => x.2.1) h
          obtain rfl : j = n := by omega
          rw [e2]
        · rw [if_neg hb] at h ⊢
          exact ih f' (j + 1) _ (by omega) h
      · rw [if_neg hr] at h
        have := congrArg (fun x => x.2.2) h
        cases this
theorem numE_bad {s t : ByteArray} {b c : Nat} {n r : Nat} (ha : Ag s b t c (n + 1)) (h : numE s b = (b + n, r, false)) : numE t c = (c + n, r, false) := by
  have h2 := ha.r
  exact numF_bad ha (s.size - b) (t.size - c) 0 0 (by omega) h
theorem numF_stop {s : ByteArray} {b : Nat} : ∀ f i v e r, i + f = s.size → numF s b f i v = (e, r, true) → e = s.size ∨ e < s.size ∧ rowB (byteAt s e) = false := by
  intro f
  induction f with
  | zero => intro i v e r hf h; left; have : i = e := congrArg Prod.fst h; omega
  | succ f ih =>
    intro i v e r hf h
    unfold numF at h
    by_cases hr : rowB (byteAt s i) = true
    · rw [if_pos hr] at h
      split at h
      · have := congrArg (fun x => x.2.2) h; cases this
      · exact ih (i + 1) _ e r (by omega) h
    · rw [if_neg hr] at h
      have : i = e := congrArg Prod.fst h
      subst this
      exact Or.inr ⟨by omega, by simpa using hr⟩
theorem numE_stop {s : ByteArray} {b e r : Nat} (hb : b ≤ s.size) (h : numE s b = (e, r, true)) : e = s.size ∨ e < s.size ∧ rowB (byteAt s e) = false := numF_stop (s.size - b) b 0 e r (by omega) h
theorem numF_rows {s : ByteArray} {b : Nat} : ∀ f i v k, i ≤ k → k < (numF s b f i v).1 → digitB (byteAt s k) = true := by
  intro f
  induction f with
  | zero => intro i v k h1 h2; exact absurd h2 (by show ¬ k < i; omega)
  | succ f ih =>
    intro i v k h1 h2
    unfold numF at h2
    by_cases hr : rowB (byteAt s i) = true
    · rw [if_pos hr] at h2
      by_cases hb : (!digitB (byteAt s i) || decide (i = b + 1) && decide (byteAt s b = 48) || decide ((9223372036854775807 - (byteAt s i - 48)) / 10 < v)) = true
      · rw [if_pos hb] at h2; exact absurd h2 (by show ¬ k < i; omega)
      · rw [if_neg hb] at h2
        rcases Nat.lt_or_eq_of_le h1 with h | rfl
        · exact ih (i + 1) _ k h h2
        · cases hd : digitB (byteAt s i)
          · rw [hd] at hb; exact absurd rfl hb
          · rfl
    · rw [if_neg hr] at h2; exact absurd h2 (by show ¬ k < i; omega)
/-- A number's bytes are its decimal digits. -/
theorem numF_dec {s : ByteArray} {b : Nat} : ∀ f j v e r, b + j + f = s.size → 1 ≤ j → (s.extract b (b + j)).data.toList = Lib.decDigits v → (v = 0 → j = 1 ∧ byteAt s b = 48) → v ≤ 9223372036854775807 → numF s b f (b + j) v = (e, r, true) → (s.extract b e).data.toList = Lib.decDigits r ∧ r ≤ 9223372036854775807 := by
  intro f
  induction f with
  | zero =>
    intro j v e r hf hj hx h0 hm h
    have e1 : b + j = e := congrArg Prod.fst h
    have e2 : v = r := congrArg (fun x => x.2.1) h
    rw [← e1, ← e2]
    exact ⟨hx, hm⟩
  | succ f ih =>
    intro j v e r hf hj hx h0 hm h
    unfold numF at h
    by_cases hr : rowB (byteAt s (b + j)) = true
    · rw [if_pos hr] at h
      by_cases hb : (!digitB (byteAt s (b + j)) || decide (b + j = b + 1) && decide (byteAt s b = 48) || decide ((9223372036854775807 - (byteAt s (b + j) - 48)) / 10 < v)) = true
      · rw [if_pos hb] at h
        have := congrArg (fun x => x.2.2) h
        cases this
      · rw [if_neg hb] at h
        simp only [Bool.or_eq_true, Bool.and_eq_true, decide_eq_true_eq, not_or, not_and, Bool.not_eq_true, Bool.not_eq_eq_eq_not, Bool.not_true, Bool.not_false] at hb
        obtain ⟨⟨hb1, hb2⟩, hb3⟩ := hb
        have hd : digitB (byteAt s (b + j)) = true := by cases hq : digitB (byteAt s (b + j)) <;> simp_all
        have hv : 1 ≤ v := by
          rcases Nat.eq_zero_or_pos v with hz | hz
          · obtain ⟨h1, h2⟩ := h0 hz
            exact absurd h2 (hb2 (by omega))
          · exact hz
        unfold digitB at hd
        simp only [Bool.and_eq_true, decide_eq_true_eq] at hd
        obtain ⟨d, hde⟩ : ∃ d, d = byteAt s (b + j) - 48 := ⟨_, rfl⟩
        rw [← hde] at h hb3
        have hd9 : d ≤ 9 := by omega
        refine ih (j + 1) (10 * v + d) e r (by omega) (by omega) ?_ (fun hz => by omega) (by omega) h
        rw [Lib.decDigits, dif_neg (by omega), show (10 * v + d) / 10 = v by omega, show (10 * v + d) % 10 = d by omega, ← hx]
        rw [Lib.extract_data, Lib.extract_data, show b + (j + 1) - b = j + 1 by omega, show b + j - b = j by omega]
        have hlen : s.data.toList.length = s.size := by simp
        have hlt : j < (s.data.toList.drop b).length := by rw [List.length_drop]; omega
        rw [List.take_succ_eq_append_getElem hlt]
        congr 1
        have hbv : byteAt s (b + j) = (s.data.toList.drop b)[j].toNat := by
          unfold byteAt
          rw [List.getD_eq_getElem?_getD, List.getElem?_eq_getElem (by omega), List.getElem_drop]
          rfl
        have : (s.data.toList.drop b)[j] = UInt8.ofNat (48 + d) := by
          apply UInt8.toNat_inj.1
          rw [← hbv, UInt8.toNat_ofNat']
          omega
        rw [this]
    · rw [if_neg hr] at h
      have e1 : b + j = e := congrArg Prod.fst h
      have e2 : v = r := congrArg (fun x => x.2.1) h
      rw [← e1, ← e2]
      exact ⟨hx, hm⟩
theorem numE_dec {s : ByteArray} {b e r : Nat} (hb : b < s.size) (hd : digitB (byteAt s b) = true) (h : numE s b = (e, r, true)) : (s.extract b e).data.toList = Lib.decDigits r ∧ r ≤ 9223372036854775807 := by
  unfold numE at h
  rw [show s.size - b = (s.size - b - 1) + 1 by omega] at h
  unfold numF at h
  have hd' := hd
  unfold digitB at hd'
  simp only [Bool.and_eq_true, decide_eq_true_eq] at hd'
  rw [if_pos (row_of_digit hd), hd, if_neg (by simp), Nat.mul_zero, Nat.zero_add] at h
  refine numF_dec (s.size - b - 1) 1 (byteAt s b - 48) e r (by omega) (by omega) ?_ (fun hz => ⟨rfl, by omega⟩) (by omega) h
  rw [Lib.decDigits, dif_pos (by omega), Lib.extract_data, show b + 1 - b = 1 by omega]
  have hlen : s.data.toList.length = s.size := by simp
  have hlt : 0 < (s.data.toList.drop b).length := by rw [List.length_drop]; omega
  rw [List.take_succ_eq_append_getElem hlt, List.take_zero, List.nil_append]
  have hbv : byteAt s b = (s.data.toList.drop b)[0].toNat := by
    unfold byteAt
    rw [List.getD_eq_getElem?_getD, List.getElem?_eq_getElem (by omega), List.getElem_drop]
    rfl
  have : (s.data.toList.drop b)[0] = UInt8.ofNat (48 + (byteAt s b - 48)) := by
    apply UInt8.toNat_inj.1
    rw [← hbv, UInt8.toNat_ofNat']
    omega
  rw [this]
end Go.Proofs.YtcbifoimfhfccaaGreatDoor

/- Lines and columns. Plain. -/
import Derived.Test.YtcbifoimfhfccaaGreatDoorLexS
import Derived.Test.YtcbifoimfhfccaaGreatDoorLexD
import Derived.Lib.Split
import Derived.Lib.SplitLaws
import Derived.Lib.LastIndexByte
namespace Go.Proofs.YtcbifoimfhfccaaGreatDoor

def nlB : ByteArray := ⟨#[10]⟩
/-- The line and the column behind k bytes. -/
def lnF (s : ByteArray) : Nat → Nat
  | 0 => 1
  | k + 1 => if byteAt s k = 10 then lnF s k + 1 else lnF s k
def colF (s : ByteArray) : Nat → Nat
  | 0 => 1
  | k + 1 => if byteAt s k = 10 then 1 else colF s k + 1
/-- The lines that have ended behind k bytes, and where the one that has not begins. -/
def linF (s : ByteArray) : Nat → List ByteArray × Nat
  | 0 => ([], 0)
  | k + 1 => if byteAt s k = 10 then ((linF s k).1 ++ [s.extract (linF s k).2 k], k + 1) else linF s k
def linesS (s : ByteArray) : List ByteArray := (linF s s.size).1 ++ [s.extract (linF s s.size).2 s.size]
def lineS (s : ByteArray) (at_ : Int) : Nat × Nat × Nat := if 65536 < s.size then (0, 0, 3) else if at_ < 0 ∨ (s.size : Int) < at_ then (0, 0, 2) else (lnF s at_.toNat, colF s at_.toNat, 0)
theorem lnF_le (s : ByteArray) : ∀ k, 1 ≤ lnF s k ∧ lnF s k ≤ k + 1 := by
  intro k
  induction k with
  | zero => exact ⟨Nat.le_refl _, Nat.le_refl _⟩
  | succ k ih => unfold lnF; split <;> omega
theorem colF_le (s : ByteArray) : ∀ k, 1 ≤ colF s k ∧ colF s k ≤ k + 1 := by
  intro k
  induction k with
  | zero => exact ⟨Nat.le_refl _, Nat.le_refl _⟩
  | succ k ih => unfold colF; split <;> omega
theorem byteAt_get {s : ByteArray} {k : Nat} (h : k < s.data.toList.length) : byteAt s k = s.data.toList[k].toNat := by
  unfold byteAt
  rw [List.getD_eq_getElem?_getD, List.getElem?_eq_getElem h]
  rfl
theorem lnF_count (s : ByteArray) : ∀ k, k ≤ s.size → lnF s k = 1 + Lib.countByte (s.extract 0 k).data.toList 10 := by
  intro k
  induction k with
  | zero =>
    intro _
    rw [Lib.extract_data]
    rfl
  | succ k ih =>
    intro h
    have hl : k < s.data.toList.length := by rw [size_len]; omega
    have ih' := ih (by omega)
    rw [Lib.extract_data, List.drop_zero, Nat.sub_zero] at ih' ⊢
    rw [List.take_succ_eq_append_getElem hl]
    unfold lnF Lib.countByte
    unfold Lib.countByte at ih'
    rw [List.count_append, byteAt_get hl, ih']
    by_cases hc : s.data.toList[k] = 10
    · rw [hc, if_pos (by decide)]
      simp
      omega
    · rw [if_neg (fun h2 => hc (UInt8.toNat_inj.1 (h2.trans (by decide : (10 : Nat) = (10 : UInt8).toNat))))]
      have : List.count 10 [s.data.toList[k]] = 0 := by
        rw [List.count_eq_zero]
        simpa using fun h => hc h.symm
      rw [this]
      omega
theorem colF_last (s : ByteArray) : ∀ k, k ≤ s.size → ∀ t : ByteArray, t = s.extract 0 k → (colF s k : Int) = k - Lib.lastIndexByte t 10 ∧ (∀ j, j < k → ((t.data[j]!).toNat) = byteAt s j) := by
  intro k hk t ht
  have hz : t.size = k := by rw [ht]; have := size_ext s (a := 0) (n := k) (by omega); rw [Nat.zero_add] at this; exact this
  have hb : ∀ j, j < k → ((t.data[j]!).toNat) = byteAt s j := by
    intro j hj
    have h2 : byteAt t j = byteAt s j := by rw [ht, byteAt_ext _ _ _ _ (by omega), Nat.zero_add]
    rw [← h2]
    have hl : j < t.data.size := by have : t.data.size = t.size := rfl; omega
    unfold byteAt
    rw [List.getD_eq_getElem?_getD, List.getElem?_eq_getElem (by simpa using hl), getElem!_pos t.data j hl]
    simp
  refine ⟨?_, hb⟩
  have key : ∀ m, m ≤ k → (colF s m : Int) = m - Lib.lastIdx t 10 m := by
    intro m
    induction m with
    | zero => intro _; rfl
    | succ m ih =>
      intro hm
      have := hb m (by omega)
      by_cases h10 : byteAt s m = 10
      · rw [Lib.lastIdx_hit t 10 m (by rw [this, h10]; rfl)]
        unfold colF
        rw [if_pos h10]
        omega
      · rw [Lib.lastIdx_miss t 10 m (by rw [this]; omega)]
        unfold colF
        rw [if_neg h10]
        have := ih (by omega)
        omega
  unfold Lib.lastIndexByte
  rw [hz]
  exact key k (Nat.le_refl k)
theorem lineF_not {s : ByteArray} : ∀ f i k, i ≤ k → k < lineF s f i → byteAt s k ≠ 10 := by
  intro f
  induction f with
  | zero => intro i k h1 h2; exact absurd h2 (by show ¬ k < i; omega)
  | succ f ih =>
    intro i k h1 h2
    unfold lineF at h2
    by_cases h : byteAt s i = 10
    · rw [if_pos h] at h2; omega
    · rw [if_neg h] at h2
      rcases Nat.lt_or_eq_of_le h1 with h3 | rfl
      · exact ih (i + 1) k h3 h2
      · exact h
theorem lineF_ge {s : ByteArray} {k : Nat} : ∀ f i, k ≤ i + f → (∀ j, i ≤ j → j < k → byteAt s j ≠ 10) → k ≤ lineF s f i := by
  intro f
  induction f with
  | zero => intro i h _; exact h
  | succ f ih =>
    intro i h hn
    unfold lineF
    by_cases h10 : byteAt s i = 10
    · rw [if_pos h10]
      rcases Nat.lt_or_ge i k with h1 | h1
      · exact absurd h10 (hn i (Nat.le_refl _) h1)
      · exact h1
    · rw [if_neg h10]
      exact ih (i + 1) (by omega) (fun j hj => hn j (by omega))
theorem lineF_at {s : ByteArray} : ∀ f i, i + f = s.size → lineF s f i < s.size → byteAt s (lineF s f i) = 10 := by
  intro f
  induction f with
  | zero => intro i hf h; unfold lineF at h; omega
  | succ f ih =>
    intro i hf h
    unfold lineF at h ⊢
    by_cases h1 : byteAt s i = 10
    · rw [if_pos h1]; exact h1
    · rw [if_neg h1] at h ⊢; exact ih (i + 1) (by omega) h
/-- The lines from a place on. -/
def lf (s : ByteArray) : Nat → Nat → List ByteArray
  | 0, f => [s.extract f s.size]
  | n + 1, f => if lineE s f < s.size then s.extract f (lineE s f) :: lf s n (lineE s f + 1) else [s.extract f s.size]
theorem linF_stay {s : ByteArray} {f : Nat} {l : List ByteArray} (h : linF s f = (l, f)) : ∀ d, (∀ j, f ≤ j → j < f + d → byteAt s j ≠ 10) → linF s (f + d) = (l, f) := by
  intro d
  induction d with
  | zero => intro _; exact h
  | succ d ih =>
    intro hn
    rw [← Nat.add_assoc]
    unfold linF
    rw [if_neg (hn (f + d) (by omega) (by omega))]
    exact ih (fun j h1 h2 => hn j h1 (by omega))
theorem linF_lf {s : ByteArray} : ∀ n f l, linF s f = (l, f) → f ≤ s.size → s.size < f + n + 1 → linesS s = l ++ lf s n f := by
  intro n
  induction n with
  | zero =>
    intro f l h hf hn
    obtain rfl : f = s.size := by omega
    unfold linesS
    rw [h]
    rfl
  | succ n ih =>
    intro f l h hf hn
    have hle := lineF_le s (s.size - f) f
    have hno : ∀ j, f ≤ j → j < lineE s f → byteAt s j ≠ 10 := fun j h1 h2 => lineF_not (s.size - f) f j h1 h2
    unfold lf
    obtain ⟨e, he⟩ : ∃ e, e = lineE s f := ⟨_, rfl⟩
    have hle' : f ≤ e ∧ e ≤ s.size := by rw [he]; unfold lineE; omega
    rw [← he] at hno ⊢
    by_cases hlt : e < s.size
    · rw [if_pos hlt]
      have hs := linF_stay h (e - f) (fun j h1 h2 => hno j h1 (by omega))
      rw [show f + (e - f) = e by omega] at hs
      have h10 : byteAt s e = 10 := by
        have := lineF_at (s := s) (s.size - f) f (by omega) (by unfold lineE at he; omega)
        unfold lineE at he
        rw [he]; exact this
      have h2 : linF s (e + 1) = (l ++ [s.extract f e], e + 1) := by
        unfold linF
        rw [if_pos h10, hs]
      rw [ih (e + 1) _ h2 (by omega) (by omega), List.append_assoc]
      rfl
    · rw [if_neg hlt]
      have hs := linF_stay h (e - f) (fun j h1 h2 => hno j h1 (by omega))
      rw [show f + (e - f) = s.size by omega] at hs
      unfold linesS
      rw [hs]
theorem ext_ext {s : ByteArray} {f a b : Nat} (hf : f ≤ s.size) (hab : a ≤ b) (hb : f + b ≤ s.size) : (s.extract f s.size).extract a b = s.extract (f + a) (f + b) := by
  have z0 := size_ext s (a := f) (n := s.size - f) (by omega)
  rw [show f + (s.size - f) = s.size by omega] at z0
  have z1 := size_ext (s.extract f s.size) (a := a) (n := b - a) (by omega)
  rw [show a + (b - a) = b by omega] at z1
  have z2 := size_ext s (a := f + a) (n := b - a) (by omega)
  rw [show f + a + (b - a) = f + b by omega] at z2
  refine bytes_eq (by omega) fun k hk => ?_
  rw [byteAt_ext _ _ _ _ (by omega), byteAt_ext _ _ _ _ (by omega), byteAt_ext _ _ _ _ (by omega), Nat.add_assoc]
theorem split_lf {s : ByteArray} : ∀ n f, f ≤ s.size → s.size < f + n + 1 → Lib.splitB nlB 0 (Lib.countB (s.extract f s.size) nlB) (s.extract f s.size) = lf s n f := by
  intro n
  have z0 : ∀ f, f ≤ s.size → (s.extract f s.size).size = s.size - f := fun f hf => by
    have z0 := size_ext s (a := f) (n := s.size - f) (by omega)
    rw [show f + (s.size - f) = s.size by omega] at z0
    exact z0
  have hi : ∀ f, f ≤ s.size → (lineE s f = s.size ∧ Lib.indexB (s.extract f s.size) nlB = -1) ∨ (∃ i : Nat, Lib.indexB (s.extract f s.size) nlB = i ∧ lineE s f = f + i ∧ f + i < s.size) := by
    intro f hf
    have e : Lib.indexB (s.extract f s.size) nlB = Lib.indexByte (s.extract f s.size).data.toList 10 := Lib.index_one _ _
    have h1 := lineE_index s f hf
    rcases Lib.indexB_cases (s.extract f s.size) nlB with h | ⟨i, h, h2⟩
    · rw [e] at h
      rw [if_pos (by omega)] at h1
      exact Or.inl ⟨h1, by rw [e]; exact h⟩
    · rw [z0 f hf, show nlB.size = 1 from rfl] at h2
      rw [e] at h
      rw [if_neg (by omega)] at h1
      exact Or.inr ⟨i, by rw [e]; exact h, by rw [h1]; omega, by omega⟩
  induction n with
  | zero =>
    intro f hf hn
    rcases hi f hf with ⟨h1, h2⟩ | ⟨i, h1, h2, h3⟩
    · rw [Lib.splitB_miss _ _ _ _ h2]; rfl
    · omega
  | succ n ih =>
    intro f hf hn
    unfold lf
    rcases hi f hf with ⟨h1, h2⟩ | ⟨i, h1, h2, h3⟩
    · rw [Lib.splitB_miss _ _ _ _ h2, if_neg (by omega)]
    · rw [Lib.countB_hit _ _ i (by decide) h1, Nat.add_comm 1, Lib.splitB_hit _ _ _ _ i h1, h2, if_pos h3, z0 f hf, show nlB.size = 1 from rfl, ext_ext hf (by omega) (by omega), ext_ext hf (by omega) (by omega), show f + (s.size - f) = s.size by omega]
      rw [show f + (i + 1) = f + i + 1 from rfl, ih (f + i + 1) (by omega) (by omega)]
      rfl
theorem ext_all (s : ByteArray) : s.extract 0 s.size = s := by
  have z := size_ext s (a := 0) (n := s.size) (by omega)
  rw [Nat.zero_add] at z
  exact bytes_eq z fun k hk => by rw [byteAt_ext _ _ _ _ (by omega), Nat.zero_add]
/-- strings.Split gives the lines. -/
theorem split_lines (s : ByteArray) : Lib.splitB nlB 0 (Lib.countB s nlB) s = linesS s := by
  have h1 := split_lf (s := s) s.size 0 (Nat.zero_le _) (by omega)
  have h2 := linF_lf (s := s) s.size 0 [] rfl (Nat.zero_le _) (by omega)
  rw [ext_all] at h1
  rw [h1, h2]
  rfl
theorem lines_len (s : ByteArray) : (linesS s).length = Lib.countB s nlB + 1 := by
  rw [← split_lines]
  exact Lib.splitB_all nlB (by decide) 0 _ s rfl
/-- Each line and what ends it. -/
def sumL : List ByteArray → Nat
  | [] => 0
  | x :: l => x.size + 1 + sumL l
def catL : List ByteArray → ByteArray
  | [] => ByteArray.empty
  | x :: l => (x ++ nlB) ++ catL l
theorem sumL_app (a : List ByteArray) (x : ByteArray) : sumL (a ++ [x]) = sumL a + (x.size + 1) := by
  induction a with
  | nil => simp [sumL]
  | cons y a ih => rw [List.cons_append]; unfold sumL; rw [ih]; omega
theorem catL_app (a : List ByteArray) (x : ByteArray) : catL (a ++ [x]) = catL a ++ (x ++ nlB) := by
  induction a with
  | nil => simp [catL]
  | cons y a ih => rw [List.cons_append]; unfold catL; rw [ih]; simp only [ByteArray.append_assoc]
theorem linF_inv (s : ByteArray) : ∀ k, k ≤ s.size → (linF s k).2 ≤ k ∧ linF s (linF s k).2 = linF s k ∧ (∀ j, (linF s k).2 ≤ j → j < k → byteAt s j ≠ 10) ∧ (linF s k).1.length + 1 = lnF s k ∧ (linF s k).2 + colF s k = k + 1 ∧ sumL (linF s k).1 = (linF s k).2 ∧ catL (linF s k).1 = s.extract 0 (linF s k).2 := by
  intro k
  induction k with
  | zero =>
    intro _
    refine ⟨Nat.le_refl _, rfl, fun j h1 h2 => absurd h2 (Nat.not_lt_zero _), rfl, rfl, rfl, ?_⟩
    exact (bytes_eq (by have := size_ext s (a := 0) (n := 0) (by omega); exact this) (fun j hj => by have := size_ext s (a := 0) (n := 0) (by omega); rw [Nat.add_zero] at this; have h0 : (s.extract 0 (linF s 0).2).size = 0 := this; omega)).symm
  | succ k ih =>
    intro hk
    obtain ⟨h1, h2, h3, h4, h5, h6, h7⟩ := ih (by omega)
    by_cases h10 : byteAt s k = 10
    · have e : linF s (k + 1) = ((linF s k).1 ++ [s.extract (linF s k).2 k], k + 1) := by
        rw [linF, if_pos h10]
      have zf := size_ext s (a := (linF s k).2) (n := k - (linF s k).2) (by omega)
      rw [show (linF s k).2 + (k - (linF s k).2) = k by omega] at zf
      rw [e]
      simp only
      refine ⟨Nat.le_refl _, e, fun j h8 h9 => by omega, ?_, ?_, ?_, ?_⟩
      · rw [List.length_append, List.length_singleton, lnF, if_pos h10, h4]
      · rw [colF, if_pos h10]
      · rw [sumL_app, h6, zf]; omega
      · rw [catL_app, h7]
        have z1 := size_ext s (a := 0) (n := (linF s k).2) (by omega)
        rw [Nat.zero_add] at z1
        have z2 := size_ext s (a := 0) (n := k + 1) (by omega)
        rw [Nat.zero_add] at z2
        have z3 : nlB.size = 1 := rfl
        refine bytes_eq (by rw [ByteArray.size_append, ByteArray.size_append, z1, z2, zf, z3]; omega) fun j hj => ?_
        rw [ByteArray.size_append, ByteArray.size_append, z1, zf, z3] at hj
        rw [byteAt_ext s 0 (k + 1) j (by omega), Nat.zero_add]
        rcases Nat.lt_or_ge j (linF s k).2 with hj1 | hj1
        · rw [byteAt_app_l _ _ (by omega), byteAt_ext _ _ _ _ (by omega), Nat.zero_add]
        · rw [show j = (s.extract 0 (linF s k).2).size + (j - (linF s k).2) by omega, byteAt_app_r]
          rcases Nat.lt_or_ge j k with hj2 | hj2
          · rw [byteAt_app_l _ _ (by omega), byteAt_ext _ _ _ _ (by omega), z1]
          · have : j - (linF s k).2 = (s.extract (linF s k).2 k).size + 0 := by omega
            rw [this, byteAt_app_r, z1, zf, show (linF s k).2 + (k - (linF s k).2 + 0) = k by omega, h10]
            rfl
    · have e : linF s (k + 1) = linF s k := by rw [linF, if_neg h10]
      rw [e]
      refine ⟨by omega, h2, fun j h8 h9 => ?_, ?_, ?_, h6, h7⟩
      · rcases Nat.lt_or_eq_of_le (Nat.le_of_lt_succ h9) with h | rfl
        · exact h3 j h8 h
        · exact h10
      · rw [lnF, if_neg h10]; exact h4
      · rw [colF, if_neg h10]; omega
/-- Each place is in its line at its column. -/
theorem place_line (s : ByteArray) {k : Nat} (hk : k ≤ s.size) : lnF s k ≤ (linesS s).length ∧ colF s k ≤ ((linesS s).getD (lnF s k - 1) ByteArray.empty).size + 1 ∧ colF s k - 1 + sumL ((linesS s).take (lnF s k - 1)) = k := by
  obtain ⟨h1, h2, h3, h4, h5, h6, h7⟩ := linF_inv s k hk
  obtain ⟨l, hl⟩ : ∃ l, l = (linF s k).1 := ⟨_, rfl⟩
  obtain ⟨f, hf⟩ : ∃ f, f = (linF s k).2 := ⟨_, rfl⟩
  have h2' : linF s f = (l, f) := by rw [hf, h2, hl]
  rw [← hl] at h4 h6 h7
  rw [← hf] at h1 h3 h5 h6 h7
  have hls := linF_lf (s.size - f + 1) f l h2' (by omega) (by omega)
  obtain ⟨x, rest, hx, hxs⟩ : ∃ x rest, lf s (s.size - f + 1) f = x :: rest ∧ k - f ≤ x.size := by
    unfold lf
    have hge : k ≤ lineE s f := lineF_ge (s.size - f) f (by omega) h3
    by_cases hlt : lineE s f < s.size
    · rw [if_pos hlt]
      refine ⟨_, _, rfl, ?_⟩
      have := size_ext s (a := f) (n := lineE s f - f) (by omega)
      rw [show f + (lineE s f - f) = lineE s f by omega] at this
      omega
    · rw [if_neg hlt]
      refine ⟨_, _, rfl, ?_⟩
      have := size_ext s (a := f) (n := s.size - f) (by omega)
      rw [show f + (s.size - f) = s.size by omega] at this
      omega
  rw [hls, hx]
  have hn : lnF s k - 1 = l.length := by omega
  refine ⟨by rw [List.length_append, List.length_cons]; omega, ?_, ?_⟩
  · rw [hn, List.getD_eq_getElem?_getD, List.getElem?_append_right (Nat.le_refl _), Nat.sub_self]
    show colF s k ≤ x.size + 1
    omega
  · rw [hn, List.take_left', h6]
    · omega
    · rfl
/-- Lines put together. -/
def joinL : List ByteArray → ByteArray
  | [] => ByteArray.empty
  | [x] => x
  | x :: y :: l => x ++ nlB ++ joinL (y :: l)
theorem joinL_last (a : List ByteArray) (x : ByteArray) : joinL (a ++ [x]) = catL a ++ x := by
  induction a with
  | nil => simp [joinL, catL]
  | cons y a ih =>
    cases a with
    | nil => simp [joinL, catL]
    | cons z a =>
      rw [List.cons_append, List.cons_append]
      unfold joinL catL
      rw [← List.cons_append, ih]
      unfold catL
      simp only [ByteArray.append_assoc]
theorem joined_lines (s : ByteArray) : joinL (linesS s) = s := by
  unfold linesS
  obtain ⟨h1, h2, h3, h4, h5, h6, h7⟩ := linF_inv s s.size (Nat.le_refl _)
  rw [joinL_last, h7]
  obtain ⟨f, hf⟩ : ∃ f, f = (linF s s.size).2 := ⟨_, rfl⟩
  rw [← hf] at h1 h5 h6 ⊢
  have z1 := size_ext s (a := 0) (n := f) (by omega)
  rw [Nat.zero_add] at z1
  have z2 := size_ext s (a := f) (n := s.size - f) (by omega)
  rw [show f + (s.size - f) = s.size by omega] at z2
  refine bytes_eq (by rw [ByteArray.size_append, z1, z2]; omega) fun j hj => ?_
  rw [ByteArray.size_append, z1, z2] at hj
  rcases Nat.lt_or_ge j f with hj1 | hj1
  · rw [byteAt_app_l _ _ (by omega), byteAt_ext _ _ _ _ (by omega), Nat.zero_add]
  · rw [show j = (s.extract 0 f).size + (j - f) by omega, byteAt_app_r, byteAt_ext _ _ _ _ (by omega), z1]
end Go.Proofs.YtcbifoimfhfccaaGreatDoor

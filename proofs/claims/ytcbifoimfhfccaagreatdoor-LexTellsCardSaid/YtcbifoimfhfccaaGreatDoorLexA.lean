/- What a text is lexed to: plain definitions. -/
import Derived.Test.YtcbifoimfhfccaaGreatDoorLib
namespace Go.Proofs.YtcbifoimfhfccaaGreatDoor

/-- The byte at a place, as a number. -/
def byteAt (s : ByteArray) (k : Nat) : Nat := (s.data.toList.getD k 0).toNat
theorem byteAt_eq (s : ByteArray) (k : Nat) (h : k < s.size) : (s[k]'h).toNat = byteAt s k := by
  unfold byteAt
  rw [List.getD_eq_getElem?_getD, List.getElem?_eq_getElem (by simpa using h)]; rfl
def smallB (c : Nat) : Bool := decide (97 ≤ c) && decide (c ≤ 122)
def greatB (c : Nat) : Bool := decide (65 ≤ c) && decide (c ≤ 90)
def digitB (c : Nat) : Bool := decide (48 ≤ c) && decide (c ≤ 57)
def rowB (c : Nat) : Bool := smallB c || greatB c || digitB c || decide (c = 95)
def blankB (c : Nat) : Bool := decide (c = 32) || decide (c = 10) || decide (c = 9) || decide (c = 13)
/-- Where a name that began at a place ends, i bytes being gone over; false: it is stuck there. -/
def nameF (s : ByteArray) (b : Nat) (g : Bool) : Nat → Nat → Nat × Bool
  | 0, i => (i, true)
  | f + 1, i => if rowB (byteAt s i) = true then (if (greatB (byteAt s i) && !g || decide (i - b = 32)) = true then (i, false) else nameF s b g f (i + 1)) else (i, true)
def nameE (s : ByteArray) (b : Nat) (g : Bool) : Nat × Bool := nameF s b g (s.size - b) b
/-- Where a number ends, and it. -/
def numF (s : ByteArray) (b : Nat) : Nat → Nat → Nat → Nat × Nat × Bool
  | 0, i, v => (i, v, true)
  | f + 1, i, v =>
    if rowB (byteAt s i) = true then
      (if (!digitB (byteAt s i) || decide (i = b + 1) && decide (byteAt s b = 48) || decide ((9223372036854775807 - (byteAt s i - 48)) / 10 < v)) = true then (i, 0, false)
       else numF s b f (i + 1) (10 * v + (byteAt s i - 48)))
    else (i, v, true)
def numE (s : ByteArray) (b : Nat) : Nat × Nat × Bool := numF s b (s.size - b) b 0
def twoB (c d : Nat) : Bool := decide (c = 45) && decide (d = 62) || decide (d = 61) && (decide (c = 61) || decide (c = 33) || decide (c = 60) || decide (c = 62)) || decide (c = 38) && decide (d = 38) || decide (c = 124) && decide (d = 124)
def ones : List Nat := [123, 125, 40, 41, 60, 62, 44, 59, 58, 46, 38, 42, 33, 61, 43, 45, 47, 37]
/-- How long the sign at a place is; 0: there is none. -/
def signL (s : ByteArray) (i : Nat) : Nat :=
  if i + 1 < s.size ∧ twoB (byteAt s i) (byteAt s (i + 1)) = true then 2 else if i < s.size ∧ ones.contains (byteAt s i) = true then 1 else 0
/-- A token. -/
structure Tk where
  k : Nat
  at_ : Int
  n : Int
  s : ByteArray
def tk0 : Tk := ⟨0, 0, 0, ByteArray.empty⟩
def wordL : List ByteArray := [⟨#[102, 110]⟩, ⟨#[115, 116, 114, 117, 99, 116]⟩, ⟨#[108, 101, 116]⟩, ⟨#[105, 102]⟩, ⟨#[101, 108, 115, 101]⟩, ⟨#[108, 111, 111, 112]⟩, ⟨#[119, 104, 105, 108, 101]⟩, ⟨#[98, 114, 101, 97, 107]⟩, ⟨#[99, 111, 110, 116, 105, 110, 117, 101]⟩, ⟨#[114, 101, 116, 117, 114, 110]⟩, ⟨#[116, 114, 117, 101]⟩, ⟨#[102, 97, 108, 115, 101]⟩, ⟨#[109, 117, 116]⟩, ⟨#[112, 114, 105, 110, 116]⟩, ⟨#[114, 101, 97, 100]⟩, ⟨#[98, 111, 120]⟩, ⟨#[105, 54, 52]⟩, ⟨#[98, 111, 111, 108]⟩, ⟨#[66, 111, 120]⟩]
def wordB (s : ByteArray) : Bool := wordL.any fun p => decide (s = p)
theorem wordB_iff {s : ByteArray} : wordB s = true ↔ s ∈ wordL := by
  unfold wordB
  rw [List.any_eq_true]
  exact ⟨fun ⟨p, h1, h2⟩ => (of_decide_eq_true h2) ▸ h1, fun h => ⟨s, h, decide_eq_true rfl⟩⟩
/-- The token at a place, and where it ends; false: it is stuck there. -/
def oneS (s : ByteArray) (i : Nat) : Tk × Nat × Bool :=
  let c := byteAt s i
  if (smallB c || greatB c) = true then
    let e := nameE s i (greatB c)
    let x := s.extract i e.1
    if e.2 = true then (⟨if wordB x = true then 1 else if greatB c = true then 3 else 2, i, 0, x⟩, e.1, true) else (tk0, e.1, false)
  else if digitB c = true then
    let e := numE s i
    if e.2.2 = true then (⟨5, i, e.2.1, ByteArray.empty⟩, e.1, true) else (tk0, e.1, false)
  else if c = 39 then
    if i + 1 < s.size ∧ smallB (byteAt s (i + 1)) = true then
      let e := nameE s (i + 1) false
      let x := s.extract (i + 1) e.1
      if (e.2 && !wordB x) = true then (⟨4, i, 0, x⟩, e.1, true) else (tk0, e.1, false)
    else (tk0, i + 1, false)
  else
    let l := signL s i
    if l = 0 then (tk0, if c = 124 then i + 1 else i, false) else (⟨6, i, 0, s.extract i (i + l)⟩, i + l, true)
/-- Does a comment begin at a place? -/
def commB (s : ByteArray) (i : Nat) : Bool := decide (i + 1 < s.size) && decide (byteAt s i = 47) && decide (byteAt s (i + 1) = 47)
/-- The next line's end from a place on. -/
def lineF (s : ByteArray) : Nat → Nat → Nat
  | 0, i => i
  | f + 1, i => if byteAt s i = 10 then i else lineF s f (i + 1)
def lineE (s : ByteArray) (i : Nat) : Nat := lineF s (s.size - i) i
/-- The tokens from a place on, behind others; what is told; and where. -/
def lexF (s : ByteArray) : Nat → Nat → List Tk → List Tk × Nat × Nat
  | 0, _, l => (l, 0, 0)
  | f + 1, i, l =>
    if i < s.size then
      (if blankB (byteAt s i) = true then lexF s f (i + 1) l
       else if commB s i = true then lexF s f (lineE s i) l
       else if (oneS s i).2.2 = true then lexF s f (oneS s i).2.1 (l ++ [(oneS s i).1])
       else ([], (oneS s i).2.1, 20))
    else (l, 0, 0)
def lexG (s : ByteArray) (i : Nat) (l : List Tk) : List Tk × Nat × Nat := lexF s (s.size - i + 1) i l
def lexS (s : ByteArray) : List Tk × Nat × Nat := if 65536 < s.size then ([], 0, 3) else lexG s 0 []

theorem nameF_le (s : ByteArray) (b : Nat) (g : Bool) : ∀ f i, i ≤ (nameF s b g f i).1 ∧ (nameF s b g f i).1 ≤ i + f := by
  intro f
  induction f with
  | zero => intro i; exact ⟨Nat.le_refl _, Nat.le_refl _⟩
  | succ f ih =>
    intro i
    unfold nameF
    split
    · split
      · exact ⟨Nat.le_refl _, by omega⟩
      · have := ih (i + 1); omega
    · exact ⟨Nat.le_refl _, by omega⟩
theorem numF_le (s : ByteArray) (b : Nat) : ∀ f i v, i ≤ (numF s b f i v).1 ∧ (numF s b f i v).1 ≤ i + f := by
  intro f
  induction f with
  | zero => intro i v; exact ⟨Nat.le_refl _, Nat.le_refl _⟩
  | succ f ih =>
    intro i v
    unfold numF
    split
    · split
      · exact ⟨Nat.le_refl _, by omega⟩
      · have := ih (i + 1) (10 * v + (byteAt s i - 48)); omega
    · exact ⟨Nat.le_refl _, by omega⟩
theorem lineF_le (s : ByteArray) : ∀ f i, i ≤ lineF s f i ∧ lineF s f i ≤ i + f := by
  intro f
  induction f with
  | zero => intro i; exact ⟨Nat.le_refl _, Nat.le_refl _⟩
  | succ f ih =>
    intro i
    unfold lineF
    split
    · exact ⟨Nat.le_refl _, by omega⟩
    · have := ih (i + 1); omega
theorem lineE_lt {s : ByteArray} {i : Nat} (h : commB s i = true) : i < lineE s i ∧ lineE s i ≤ s.size := by
  unfold commB at h
  simp only [Bool.and_eq_true, decide_eq_true_eq] at h
  obtain ⟨⟨h1, h2⟩, -⟩ := h
  have hf := lineF_le s (s.size - i) i
  unfold lineE
  refine ⟨?_, by omega⟩
  rw [show s.size - i = (s.size - i - 1) + 1 by omega]
  unfold lineF
  rw [if_neg (by omega)]
  have := lineF_le s (s.size - i - 1) (i + 1)
  omega
theorem nameE_lt {s : ByteArray} {i : Nat} {g : Bool} (hi : i < s.size) (h1 : rowB (byteAt s i) = true) (h2 : (greatB (byteAt s i) && !g) = false) : i < (nameE s i g).1 ∧ (nameE s i g).1 ≤ s.size := by
  have hf := nameF_le s i g (s.size - i) i
  unfold nameE
  refine ⟨?_, by omega⟩
  rw [show s.size - i = (s.size - i - 1) + 1 by omega]
  unfold nameF
  rw [if_pos h1, h2, if_neg (by simp)]
  have := nameF_le s i g (s.size - i - 1) (i + 1)
  omega
theorem row_of_small {c : Nat} (h : smallB c = true) : rowB c = true := by unfold rowB; rw [h]; rfl
theorem row_of_great {c : Nat} (h : greatB c = true) : rowB c = true := by unfold rowB; rw [h]; simp
theorem row_of_digit {c : Nat} (h : digitB c = true) : rowB c = true := by unfold rowB; rw [h]; simp
theorem small_not_great {c : Nat} (h : smallB c = true) : greatB c = false := by
  unfold smallB at h; unfold greatB
  simp only [Bool.and_eq_true, decide_eq_true_eq] at h
  simp; omega
theorem numE_lt {s : ByteArray} {i : Nat} (hi : i < s.size) (h1 : digitB (byteAt s i) = true) : i < (numE s i).1 ∧ (numE s i).1 ≤ s.size := by
  have hf := numF_le s i (s.size - i) i 0
  unfold numE
  refine ⟨?_, by omega⟩
  rw [show s.size - i = (s.size - i - 1) + 1 by omega]
  unfold numF
  rw [if_pos (row_of_digit h1), h1, if_neg (by simp)]
  have := numF_le s i (s.size - i - 1) (i + 1) (10 * 0 + (byteAt s i - 48))
  omega
theorem signL_le {s : ByteArray} {i : Nat} (hi : i < s.size) : i + signL s i ≤ s.size ∧ signL s i ≤ 2 := by
  unfold signL
  split
  · omega
  · split <;> omega
theorem oneS_lt {s : ByteArray} {i : Nat} (hi : i < s.size) (h : (oneS s i).2.2 = true) : i < (oneS s i).2.1 ∧ (oneS s i).2.1 ≤ s.size := by
  unfold oneS at h ⊢
  simp only at h ⊢
  split at h
  · rename_i h1
    rw [if_pos h1]
    have hr : rowB (byteAt s i) = true := by
      rcases Bool.or_eq_true _ _ ▸ h1 with h1 | h1
      · exact row_of_small h1
      · exact row_of_great h1
    have hl := nameE_lt (g := greatB (byteAt s i)) hi hr (by cases greatB (byteAt s i) <;> rfl)
    split at h
    · rename_i h2; rw [if_pos h2]; exact hl
    · cases h
  · rename_i h1
    rw [if_neg h1]
    split at h
    · rename_i h2
      rw [if_pos h2]
      have hl := numE_lt hi h2
      split at h
      · rename_i h3; rw [if_pos h3]; exact hl
      · cases h
    · rename_i h2
      rw [if_neg h2]
      split at h
      · rename_i h3
        rw [if_pos h3]
        split at h
        · rename_i h4
          rw [if_pos h4]
          have hl := nameE_lt (g := false) h4.1 (row_of_small h4.2) (by rw [small_not_great h4.2]; rfl)
          split at h
          · rename_i h5; rw [if_pos h5]; exact ⟨by have := hl.1; simp only; omega, hl.2⟩
          · cases h
        · cases h
      · rename_i h3
        rw [if_neg h3]
        split at h
        · cases h
        · rename_i h4
          rw [if_neg h4]
          have := signL_le hi
          simp only
          omega
theorem lexF_fuel (s : ByteArray) : ∀ f f' i l, s.size < i + f → s.size < i + f' → lexF s f i l = lexF s f' i l := by
  intro f
  induction f with
  | zero =>
    intro f' i l h1 h2
    cases f' with
    | zero => rfl
    | succ f' => unfold lexF; rw [if_neg (by omega)]
  | succ f ih =>
    intro f' i l h1 h2
    cases f' with
    | zero => unfold lexF; rw [if_neg (by omega)]
    | succ f' =>
      unfold lexF
      by_cases hi : i < s.size
      · rw [if_pos hi, if_pos hi]
        by_cases hb : blankB (byteAt s i) = true
        · rw [if_pos hb, if_pos hb]; exact ih f' (i + 1) l (by omega) (by omega)
        · rw [if_neg hb, if_neg hb]
          by_cases hc : commB s i = true
          · rw [if_pos hc, if_pos hc]
            have := lineE_lt hc
            exact ih f' _ l (by omega) (by omega)
          · rw [if_neg hc, if_neg hc]
            by_cases ho : (oneS s i).2.2 = true
            · rw [if_pos ho, if_pos ho]
              have := oneS_lt hi ho
              exact ih f' _ _ (by omega) (by omega)
            · rw [if_neg ho, if_neg ho]
      · rw [if_neg hi, if_neg hi]
theorem lexG_end {s : ByteArray} {i : Nat} {l : List Tk} (h : s.size ≤ i) : lexG s i l = (l, 0, 0) := by
  unfold lexG lexF; rw [if_neg (by omega)]
theorem lexG_blank {s : ByteArray} {i : Nat} {l : List Tk} (hi : i < s.size) (h : blankB (byteAt s i) = true) : lexG s i l = lexG s (i + 1) l := by
  have e : lexG s i l = lexF s (s.size - i) (i + 1) l := by
    unfold lexG
    rw [lexF, if_pos hi, if_pos h]
  rw [e]
  exact lexF_fuel s _ _ _ _ (by omega) (by omega)
theorem lexG_comm {s : ByteArray} {i : Nat} {l : List Tk} (hi : i < s.size) (hb : blankB (byteAt s i) = false) (h : commB s i = true) : lexG s i l = lexG s (lineE s i) l := by
  have e : lexG s i l = lexF s (s.size - i) (lineE s i) l := by
    unfold lexG
    rw [lexF, if_pos hi, if_neg (by rw [hb]; decide), if_pos h]
  have := lineE_lt h
  rw [e]
  exact lexF_fuel s _ _ _ _ (by omega) (by omega)
theorem lexG_one {s : ByteArray} {i : Nat} {l : List Tk} (hi : i < s.size) (hb : blankB (byteAt s i) = false) (hc : commB s i = false) (h : (oneS s i).2.2 = true) : lexG s i l = lexG s (oneS s i).2.1 (l ++ [(oneS s i).1]) := by
  have e : lexG s i l = lexF s (s.size - i) (oneS s i).2.1 (l ++ [(oneS s i).1]) := by
    unfold lexG
    rw [lexF, if_pos hi, if_neg (by rw [hb]; decide), if_neg (by rw [hc]; decide), if_pos h]
  have := oneS_lt hi h
  rw [e]
  exact lexF_fuel s _ _ _ _ (by omega) (by omega)
theorem lexG_bad {s : ByteArray} {i : Nat} {l : List Tk} (hi : i < s.size) (hb : blankB (byteAt s i) = false) (hc : commB s i = false) (h : (oneS s i).2.2 = false) : lexG s i l = ([], (oneS s i).2.1, 20) := by
  unfold lexG
  rw [lexF, if_pos hi, if_neg (by rw [hb]; decide), if_neg (by rw [hc]; decide), if_neg (by rw [h]; decide)]
end Go.Proofs.YtcbifoimfhfccaaGreatDoor

/- Tokens and lists of them compared; how many a text has. Plain. -/
import Derived.Test.YtcbifoimfhfccaaGreatDoorLexA
namespace Go.Proofs.YtcbifoimfhfccaaGreatDoor

def sameK (x y : Tk) : Bool := decide (x.k = y.k) && decide (x.n = y.n) && decide (x.s = y.s)

def fullK (x y : Tk) : Bool := sameK x y && decide (x.at_ = y.at_)
theorem fullK_iff {x y : Tk} : fullK x y = true ↔ x = y := by
  obtain ⟨a, b, c, d⟩ := x
  obtain ⟨a', b', c', d'⟩ := y
  simp [fullK, sameK]
  constructor
  · rintro ⟨⟨⟨h1, h2⟩, h3⟩, h4⟩; exact ⟨h1, h4, h2, h3⟩
  · rintro ⟨h1, h4, h2, h3⟩; exact ⟨⟨⟨h1, h2⟩, h3⟩, h4⟩

/-- Two lists, token by token. -/
def eqK (p : Tk → Tk → Bool) (a b : List Tk) : Bool := decide (a.length = b.length) && (List.range a.length).all fun i => p (a.getD i tk0) (b.getD i tk0)
theorem eqK_step {p : Tk → Tk → Bool} {a b : List Tk} (h : a.length = b.length) (hall : ∀ i, i < a.length → p (a.getD i tk0) (b.getD i tk0) = true) : eqK p a b = true := by
  unfold eqK
  rw [decide_eq_true h, Bool.true_and, List.all_eq_true]
  exact fun i hi => hall i (List.mem_range.1 hi)
theorem eqK_fail {p : Tk → Tk → Bool} {a b : List Tk} {i : Nat} (hi : i < a.length) (hf : p (a.getD i tk0) (b.getD i tk0) = false) : eqK p a b = false := by
  unfold eqK
  rw [Bool.and_eq_false_iff]
  right
  rw [List.all_eq_false]
  exact ⟨i, List.mem_range.2 hi, by rw [hf]; decide⟩
theorem eqK_len {p : Tk → Tk → Bool} {a b : List Tk} (h : a.length ≠ b.length) : eqK p a b = false := by
  unfold eqK; rw [decide_eq_false h]; rfl
theorem eqK_iff {p : Tk → Tk → Bool} {a b : List Tk} : eqK p a b = true ↔ a.length = b.length ∧ ∀ i, i < a.length → p (a.getD i tk0) (b.getD i tk0) = true := by
  unfold eqK
  rw [Bool.and_eq_true, decide_eq_true_iff, List.all_eq_true]
  exact ⟨fun ⟨h1, h2⟩ => ⟨h1, fun i hi => h2 i (List.mem_range.2 hi)⟩, fun ⟨h1, h2⟩ => ⟨h1, fun i hi => h2 i (List.mem_range.1 hi)⟩⟩
theorem eqK_full {a b : List Tk} : eqK fullK a b = true ↔ a = b := by
  rw [eqK_iff]
  constructor
  · rintro ⟨h1, h2⟩
    apply List.ext_getElem h1
    intro i hi hi2
    have := fullK_iff.1 (h2 i hi)
    rw [List.getD_eq_getElem?_getD, List.getD_eq_getElem?_getD, List.getElem?_eq_getElem hi, List.getElem?_eq_getElem hi2] at this
    exact this
  · rintro rfl
    exact ⟨rfl, fun i hi => fullK_iff.2 rfl⟩
theorem lexF_len (s : ByteArray) : ∀ f i l, i ≤ s.size → (lexF s f i l).1.length ≤ l.length + (s.size - i) := by
  intro f
  induction f with
  | zero => intro i l hi; exact Nat.le_add_right _ _
  | succ f ih =>
    intro i l hi
    unfold lexF
    by_cases h : i < s.size
    · rw [if_pos h]
      by_cases hb : blankB (byteAt s i) = true
      · rw [if_pos hb]; have := ih (i + 1) l (by omega); omega
      · rw [if_neg hb]
        by_cases hc : commB s i = true
        · rw [if_pos hc]; have h2 := lineE_lt hc; have := ih (lineE s i) l h2.2; omega
        · rw [if_neg hc]
          by_cases ho : (oneS s i).2.2 = true
          · rw [if_pos ho]
            have h2 := oneS_lt h ho
            have := ih (oneS s i).2.1 (l ++ [(oneS s i).1]) h2.2
            rw [List.length_append, List.length_singleton] at this
            omega
          · rw [if_neg ho]; exact Nat.zero_le _
    · rw [if_neg h]; exact Nat.le_add_right _ _
theorem lexS_len (s : ByteArray) : (lexS s).1.length ≤ 65536 ∧ (lexS s).1.length ≤ s.size := by
  unfold lexS
  split
  · exact ⟨Nat.zero_le _, Nat.zero_le _⟩
  · have := lexF_len s (s.size - 0 + 1) 0 [] (Nat.zero_le _)
    unfold lexG
    simp only [List.length_nil] at this
    omega
def likeB (s : ByteArray) (us : List Tk) : Bool := decide ((lexS s).2.2 = 0) && eqK sameK (lexS s).1 us
end Go.Proofs.YtcbifoimfhfccaaGreatDoor

/- Heaps as plain data: which blocks are taken, how many were at most; what each call does to that. -/
import Derived.WalkKit
namespace Go.Proofs.Ytnfoabccbkedgaa

def bt (b : Bool) (v : Nat) : Nat := if b then v else 0
/-- The number whose bits are f 0, f 1, .. -/
def msk (f : Nat → Bool) : Nat → Nat
  | 0 => 0
  | n + 1 => bt (f n) (2 ^ n) + msk f n
theorem msk_lt (f : Nat → Bool) : ∀ n, msk f n < 2 ^ n
  | 0 => by simp [msk]
  | n + 1 => by
    have := msk_lt f n
    simp only [msk, bt, Nat.pow_succ]
    split <;> omega
theorem msk_bit (f : Nat → Bool) (i : Nat) : ∀ n, (msk f n).testBit i = (decide (i < n) && f i)
  | 0 => by simp [msk]
  | n + 1 => by
    have h := msk_bit f i n
    have hl := msk_lt f n
    simp only [msk, bt]
    by_cases hf : f n
    · simp only [hf, if_true]
      rcases Nat.lt_trichotomy i n with hi | rfl | hi
      · rw [Nat.testBit_two_pow_add_gt hi, h]; simp [hi, show i < n + 1 by omega]
      · rw [Nat.testBit_two_pow_add_eq, Nat.testBit_lt_two_pow hl]; simp [hf]
      · rw [Nat.testBit_lt_two_pow]
        · simp [show ¬ i < n + 1 by omega]
        · have : 2 ^ (n + 1) ≤ 2 ^ i := Nat.pow_le_pow_right (by omega) (by omega)
          rw [Nat.pow_succ] at this; omega
    · simp only [hf, Bool.false_eq_true, if_false, Nat.zero_add, h]
      rcases Nat.lt_trichotomy i n with hi | rfl | hi
      · simp [hi, show i < n + 1 by omega]
      · simp [hf]
      · simp [show ¬ i < n by omega, show ¬ i < n + 1 by omega]

def up (f : Nat → Bool) (i : Nat) (v : Bool) : Nat → Bool := fun j => if j = i then v else f j
theorem msk_or (f : Nat → Bool) (i : Nat) (h : i < 12) : msk f 12 ||| 2 ^ i = msk (up f i true) 12 := by
  apply Nat.eq_of_testBit_eq; intro j
  rw [Nat.testBit_or, msk_bit, msk_bit, Nat.testBit_two_pow]
  by_cases e : j = i
  · subst e; simp [up, h]
  · simp [up, e, show ¬ i = j from fun x => e x.symm]

theorem wrap_u16 (n : Nat) (h : n < 65536) : IntKind.u16.wrap (n : Int) = n := by
  simp [IntKind.wrap, IntKind.bits, IntKind.signed]; omega
def mk (f : Nat → Bool) : Int := (msk f 12 : Nat)
theorem mk_lt (f : Nat → Bool) : 0 ≤ mk f ∧ mk f < 4096 := by have := msk_lt f 12; unfold mk; omega
theorem bits_u16 (a b : Nat) (ha : a < 65536) (hb : b < 65536) : bits .and .u16 a b = ((a &&& b : Nat) : Int) ∧ bits .or .u16 a b = ((a ||| b : Nat) : Int) := by
  have h := bits_nat .u16 16 (by decide) (fun n h0 h1 => by simp [IntKind.wrap, IntKind.bits, IntKind.signed]; omega) a b (by simpa using ha) (by simpa using hb)
  exact h
theorem mk_bit (f : Nat → Bool) (i : Nat) (h : i < 12) : bits .and .u16 (mk f / 2 ^ i) 1 = if f i then 1 else 0 := by
  have hl := msk_lt f 12
  have e : mk f / 2 ^ i = ((msk f 12 / 2 ^ i : Nat) : Int) := by unfold mk; push_cast; rfl
  rw [e]
  have h1 := (bits_u16 (msk f 12 / 2 ^ i) 1 (Nat.lt_of_le_of_lt (Nat.div_le_self _ _) (by omega)) (by omega)).1
  have h2 : (msk f 12).testBit i = f i := by rw [msk_bit]; simp [h]
  rw [Nat.testBit_eq_decide_div_mod_eq] at h2
  rw [Nat.and_one_is_mod] at h1
  refine Eq.trans h1 ?_
  by_cases hf : f i = true
  · rw [if_pos hf]; rw [hf] at h2; have := of_decide_eq_true h2; omega
  · rw [if_neg hf]; simp only [Bool.not_eq_true] at hf; rw [hf] at h2; have := of_decide_eq_false h2; omega
theorem mk_or (f : Nat → Bool) (i : Nat) (h : i < 12) : bits .or .u16 (mk f) (2 ^ i) = mk (up f i true) := by
  have hl := msk_lt f 12
  have hp : 2 ^ i < 65536 := Nat.lt_of_lt_of_le (Nat.pow_lt_pow_right (by omega) h) (by decide)
  have h1 := (bits_u16 (msk f 12) (2 ^ i) (by omega) hp).2
  rw [show ((2 ^ i : Nat) : Int) = 2 ^ i by push_cast; rfl] at h1
  unfold mk; rw [h1, msk_or f i h]

def cnt (f : Nat → Bool) : Nat := (List.range 12).countP f
def popc (x : Nat) : Nat := (List.range 12).countP x.testBit
theorem popc_msk (f : Nat → Bool) : popc (msk f 12) = cnt f := by
  unfold popc cnt
  apply List.countP_congr
  intro i hi
  rw [msk_bit]; simp at hi; simp [hi]
theorem cnt_le (f : Nat → Bool) : cnt f ≤ 12 := by unfold cnt; exact Nat.le_trans List.countP_le_length (by simp)

/-- The first free block of a class. -/
def ffree (f : Nat → Bool) : Option Nat := (List.range 12).find? (fun i => !f i)
theorem ffree_some {f : Nat → Bool} {i : Nat} (h : ffree f = some i) : i < 12 ∧ f i = false ∧ ∀ j, j < i → f j = true := by
  unfold ffree at h
  rw [List.find?_range_eq_some] at h
  simpa using ⟨by simpa using h.2.1, by simpa using h.1, by simpa using h.2.2⟩
theorem ffree_none {f : Nat → Bool} (h : ffree f = none) : ∀ j, j < 12 → f j = true := by
  unfold ffree at h
  simpa using h
theorem ffree_of {f : Nat → Bool} {i : Nat} (hi : i < 12) (hf : f i = false) (hj : ∀ j, j < i → f j = true) : ffree f = some i := by
  unfold ffree
  rw [List.find?_range_eq_some]
  simp [hi, hf]; exact hj
theorem ffree_no {f : Nat → Bool} (hj : ∀ j, j < 12 → f j = true) : ffree f = none := by
  unfold ffree
  simpa using hj

/-- A heap: which blocks of each class are taken; how many were at most. -/
structure HS where
  T : Nat → Nat → Bool
  M : Nat → Nat
def HS.new : HS := ⟨fun _ _ => false, fun _ => 0⟩
def upc {α : Type} (T : Nat → α) (c : Nat) (x : α) : Nat → α := fun k => if k = c then x else T k
/-- A class's first address. -/
def hb (c : Nat) : Nat := 1 + 12 * (2 ^ c - 1)
def HS.mark (s : HS) (c i : Nat) : HS := ⟨upc s.T c (up (s.T c) i true), upc s.M c (max (s.M c) (cnt (up (s.T c) i true)))⟩
def HS.take (s : HS) (c : Int) : Int × Int × HS :=
  if c < 0 ∨ 5 ≤ c then (0, 2, s) else
  match ffree (s.T c.toNat) with
  | some i => ((hb c.toNat + i * 2 ^ c.toNat : Nat), 0, s.mark c.toNat i)
  | none => (0, 260, s)
/-- The class of a word. -/
def wcls (a : Nat) : Nat := if a < 13 then 0 else if a < 37 then 1 else if a < 85 then 2 else if a < 181 then 3 else 4
/-- An address's class and number, if it is a block's. -/
def hblk (x : Int) : Option (Nat × Nat) :=
  if x < 1 ∨ 372 < x then none else
  if (x.toNat - hb (wcls x.toNat)) % 2 ^ (wcls x.toNat) = 0 then some (wcls x.toNat, (x.toNat - hb (wcls x.toNat)) / 2 ^ (wcls x.toNat)) else none
def HS.taken (s : HS) (at_ : Int) : Bool × Int :=
  match hblk at_ with
  | some (c, n) => (s.T c n, 0)
  | none => (false, 2)
def HS.free (s : HS) (c n : Nat) : HS := ⟨upc s.T c (up (s.T c) n false), s.M⟩
def HS.give (s : HS) (at_ : Int) : Int × HS :=
  match hblk at_ with
  | some (c, n) => if s.T c n then (0, s.free c n) else (261, s)
  | none => (2, s)

/-- The cells of a heap.Heap. -/
def hcells (s : HS) : Array Value :=
  #[.bool true, .int .u16 (mk (s.T 0)), .int .i64 (s.M 0), .int .u16 (mk (s.T 1)), .int .i64 (s.M 1), .int .u16 (mk (s.T 2)), .int .i64 (s.M 2),
    .int .u16 (mk (s.T 3)), .int .i64 (s.M 3), .int .u16 (mk (s.T 4)), .int .i64 (s.M 4)]
/-- Block b is a heap. -/
def IH (w : World) (b : Nat) (s : HS) : Prop := w.heap[b]? = some (.cells (hcells s) 61 (0, 0)) ∧ ∀ c, c < 5 → s.M c ≤ 12

end Go.Proofs.Ytnfoabccbkedgaa

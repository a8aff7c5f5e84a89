/- Signs: plain facts. -/
import Derived.Test.YtcbifoimfhfccaaGreatDoorLexF
namespace Go.Proofs.YtcbifoimfhfccaaGreatDoor
open Go.RowKit

/-- Does a text go on with another one at a place? -/
def preB (s : ByteArray) (i : Nat) (p : ByteArray) : Bool := Lib.hasPrefix (s.extract i s.size).data.toList p.data.toList
def twoL : List ByteArray := [⟨#[45, 62]⟩, ⟨#[61, 61]⟩, ⟨#[33, 61]⟩, ⟨#[60, 61]⟩, ⟨#[62, 61]⟩, ⟨#[38, 38]⟩, ⟨#[124, 124]⟩]
def oneL : List ByteArray := [⟨#[123]⟩, ⟨#[125]⟩, ⟨#[40]⟩, ⟨#[41]⟩, ⟨#[60]⟩, ⟨#[62]⟩, ⟨#[44]⟩, ⟨#[59]⟩, ⟨#[58]⟩, ⟨#[46]⟩, ⟨#[38]⟩, ⟨#[42]⟩, ⟨#[33]⟩, ⟨#[61]⟩, ⟨#[43]⟩, ⟨#[45]⟩, ⟨#[47]⟩, ⟨#[37]⟩]
theorem preB_two (s : ByteArray) (i : Nat) (a b : UInt8) : preB s i ⟨#[a, b]⟩ = (decide (i + 1 < s.size) && decide (byteAt s i = a.toNat) && decide (byteAt s (i + 1) = b.toNat)) := by
  unfold preB
  rw [Lib.extract_to_end, show (⟨#[a, b]⟩ : ByteArray).data.toList = [a, b] from rfl, pre_two, u8_eq, u8_eq, size_len]; rfl
theorem preB_one (s : ByteArray) (i : Nat) (a : UInt8) : preB s i ⟨#[a]⟩ = (decide (i < s.size) && decide (byteAt s i = a.toNat)) := by
  unfold preB
  rw [Lib.extract_to_end, show (⟨#[a]⟩ : ByteArray).data.toList = [a] from rfl, pre_one, u8_eq, size_len]; rfl
theorem ext_of_pre {s p : ByteArray} {i : Nat} (h : preB s i p = true) : s.extract i (i + p.size) = p := by
  unfold preB Lib.hasPrefix at h
  rw [List.isPrefixOf_iff_prefix, Lib.extract_to_end] at h
  have h2 := List.prefix_iff_eq_take.1 h
  have e : (s.extract i (i + p.size)).data.toList = p.data.toList := by
    rw [Lib.extract_data, h2, size_len, Nat.add_sub_cancel_left]
  apply ByteArray.ext
  exact Array.toList_inj.1 e
theorem two_hit {s p : ByteArray} {i : Nat} (hp : p ∈ twoL) (h : preB s i p = true) : signL s i = 2 ∧ p.size = 2 := by
  unfold signL
  simp only [twoL, List.mem_cons, List.not_mem_nil, or_false] at hp
  rcases hp with rfl | rfl | rfl | rfl | rfl | rfl | rfl
  all_goals
    rw [preB_two] at h
    simp only [Bool.and_eq_true, decide_eq_true_eq] at h
    obtain ⟨⟨h1, h2⟩, h3⟩ := h
    rw [if_pos ⟨h1, by rw [h2, h3]; decide⟩]
    exact ⟨rfl, rfl⟩
theorem two_none {s : ByteArray} {i : Nat} (h : ∀ p ∈ twoL, preB s i p = false) : ¬ (i + 1 < s.size ∧ twoB (byteAt s i) (byteAt s (i + 1)) = true) := by
  rintro ⟨h1, h2⟩
  have key : ∀ a b : UInt8, (⟨#[a, b]⟩ : ByteArray) ∈ twoL → ¬ (byteAt s i = a.toNat ∧ byteAt s (i + 1) = b.toNat) := fun a b hm ⟨e1, e2⟩ => by
    have := h _ hm
    rw [preB_two, e1, e2] at this
    simp [h1] at this
  have k1 := key 45 62 (by simp [twoL])
  have k2 := key 61 61 (by simp [twoL])
  have k3 := key 33 61 (by simp [twoL])
  have k4 := key 60 61 (by simp [twoL])
  have k5 := key 62 61 (by simp [twoL])
  have k6 := key 38 38 (by simp [twoL])
  have k7 := key 124 124 (by simp [twoL])
  unfold twoB at h2
  simp only [Bool.or_eq_true, Bool.and_eq_true, decide_eq_true_eq] at h2
  have e45 : (45 : UInt8).toNat = 45 := rfl
  have e62 : (62 : UInt8).toNat = 62 := rfl
  have e61 : (61 : UInt8).toNat = 61 := rfl
  have e33 : (33 : UInt8).toNat = 33 := rfl
  have e60 : (60 : UInt8).toNat = 60 := rfl
  have e38 : (38 : UInt8).toNat = 38 := rfl
  have e124 : (124 : UInt8).toNat = 124 := rfl
  rw [e45, e62] at k1
  rw [e61] at k2
  rw [e33, e61] at k3
  rw [e60, e61] at k4
  rw [e62, e61] at k5
  rw [e38] at k6
  rw [e124] at k7
  omega
theorem one_hit {s p : ByteArray} {i : Nat} (h2 : ∀ p ∈ twoL, preB s i p = false) (hp : p ∈ oneL) (h : preB s i p = true) : signL s i = 1 ∧ p.size = 1 := by
  unfold signL
  rw [if_neg (two_none h2)]
  simp only [oneL, List.mem_cons, List.not_mem_nil, or_false] at hp
  rcases hp with rfl | rfl | rfl | rfl | rfl | rfl | rfl | rfl | rfl | rfl | rfl | rfl | rfl | rfl | rfl | rfl | rfl | rfl
  all_goals
    rw [preB_one] at h
    simp only [Bool.and_eq_true, decide_eq_true_eq] at h
    rw [if_pos ⟨h.1, by rw [h.2]; decide⟩]
    exact ⟨rfl, rfl⟩
theorem sign_none {s : ByteArray} {i : Nat} (h2 : ∀ p ∈ twoL, preB s i p = false) (h1 : ∀ p ∈ oneL, preB s i p = false) : signL s i = 0 := by
  unfold signL
  rw [if_neg (two_none h2), if_neg]
  rintro ⟨hi, hm⟩
  have key : ∀ a : UInt8, (⟨#[a]⟩ : ByteArray) ∈ oneL → byteAt s i ≠ a.toNat := fun a hm e => by
    have := h1 _ hm
    rw [preB_one, e] at this
    simp [hi] at this
  have hm' := List.contains_iff_mem.1 hm
  simp only [ones, List.mem_cons, List.not_mem_nil, or_false] at hm'
  rcases hm' with e | e | e | e | e | e | e | e | e | e | e | e | e | e | e | e | e | e
  · exact key 123 (by simp [oneL]) e
  · exact key 125 (by simp [oneL]) e
  · exact key 40 (by simp [oneL]) e
  · exact key 41 (by simp [oneL]) e
  · exact key 60 (by simp [oneL]) e
  · exact key 62 (by simp [oneL]) e
  · exact key 44 (by simp [oneL]) e
  · exact key 59 (by simp [oneL]) e
  · exact key 58 (by simp [oneL]) e
  · exact key 46 (by simp [oneL]) e
  · exact key 38 (by simp [oneL]) e
  · exact key 42 (by simp [oneL]) e
  · exact key 33 (by simp [oneL]) e
  · exact key 61 (by simp [oneL]) e
  · exact key 43 (by simp [oneL]) e
  · exact key 45 (by simp [oneL]) e
  · exact key 47 (by simp [oneL]) e
  · exact key 37 (by simp [oneL]) e
end Go.Proofs.YtcbifoimfhfccaaGreatDoor

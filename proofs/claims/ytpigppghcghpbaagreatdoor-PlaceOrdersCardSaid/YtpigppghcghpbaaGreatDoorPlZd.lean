/- loanwordref09.Read: plain steps. -/
import Derived.Test.YtpigppghcghpbaaGreatDoorPlZc
namespace Go.Proofs.YtpigppghcghpbaaGreatDoor
open Go.RowKit

theorem ext_drop (s : ByteArray) (i : Nat) : (s.extract i s.size).data.toList = s.data.toList.drop i := by
  rw [Lib.extract_data]
  rw [List.take_of_length_le (by rw [List.length_drop, Array.length_toList]; exact Nat.le_refl _)]
theorem ext_size (s : ByteArray) {i : Nat} (h : i ≤ s.size) : (s.extract i s.size).size = s.size - i := by
  rw [ByteArray.size_extract]; omega
theorem digF_le (first : Nat) : ∀ (l : List UInt8) (n v : Nat), (digF first l n v).2 ≤ n + l.length ∧ (digF first l n v).1 ≤ 9223372036854775807 ∨ 9223372036854775807 < v := by
  intro l
  induction l with
  | nil => intro n v; simp only [digF]; by_cases h : v ≤ 9223372036854775807
           · exact Or.inl ⟨by simp, h⟩
           · exact Or.inr (by omega)
  | cons c r ih =>
    intro n v
    rw [digF]
    by_cases hv : 9223372036854775807 < v
    · exact Or.inr hv
    refine Or.inl ?_
    split
    · rename_i hd
      split
      · exact ⟨Nat.zero_le _, Nat.zero_le _⟩
      · rename_i hc
        simp only [Bool.or_eq_true, decide_eq_true_eq, not_or] at hc
        have hc1 := hc.1
        unfold isD at hd
        simp only [Bool.and_eq_true, decide_eq_true_eq] at hd
        rcases ih (n + 1) (10 * v + (c.toNat - 48)) with ⟨h1, h2⟩ | h
        · refine ⟨?_, h2⟩
          rw [List.length_cons]; omega
        · omega
    · exact ⟨Nat.le_add_right _ _, by omega⟩
theorem digS_le (l : List UInt8) : (digS l).2 ≤ l.length ∧ (digS l).1 ≤ 9223372036854775807 := by
  unfold digS
  rcases digF_le (hd0 l) l 0 0 with ⟨h1, h2⟩ | h
  · exact ⟨by omega, h2⟩
  · omega
end Go.Proofs.YtpigppghcghpbaaGreatDoor

/- What loanwordref03.fields says. -/
import Derived.Test.YtjefoojkgocinaaDoorTreeL
import Derived.Test.YtjefoojkgocinaaDoorTreeD
namespace Go.Proofs.YtjefoojkgocinaaDoor
open Go.RowKit
def fieldsB (k : Nat) (at_ n : Int) (s : ByteArray) : Bool :=
  (askR k n s []).2.1 && (decide ((askR k n s []).2.2.1 ≤ n) && decide (n ≤ (askR k n s []).2.2.2)) && decide (0 ≤ at_) && decide (1 ≤ k) && decide (k ≤ 37)
theorem eq00 (n : Int) : (decide ((0 : Int) ≤ n) && decide (n ≤ (0 : Int))) = (n == 0) := by rw [Bool.eq_iff_iff]; simp; omega
theorem eq01 (n : Int) : (decide ((0 : Int) ≤ n) && decide (n ≤ (1 : Int))) = ((n == 0) || (n == 1)) := by rw [Bool.eq_iff_iff]; simp; omega
end Go.Proofs.YtjefoojkgocinaaDoor

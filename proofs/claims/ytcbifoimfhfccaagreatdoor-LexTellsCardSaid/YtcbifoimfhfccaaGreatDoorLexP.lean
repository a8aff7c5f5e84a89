/- Tokens compared: like's inner function, SameTokens, EqualFunc. -/
import Derived.Test.YtcbifoimfhfccaaGreatDoorLexO
import Derived.Test.YtcbifoimfhfccaaGreatDoorLexR
namespace Go.Proofs.YtcbifoimfhfccaaGreatDoor
open Go.RowKit

set_option maxRecDepth 100000 in
set_option maxHeartbeats 4000000 in
theorem like1_any (x y : Tk) (w : World) : Calls Tryz.prog 38 #[.agg (tkC x), .agg (tkC y)] w fun e w' => e = .returned (.bool (sameK x y)) ∧ KB F0 w w' := by
  obtain ⟨w0, rfl⟩ : ∃ w0, w0 = w := ⟨_, rfl⟩
  obtain ⟨R, hR⟩ : ∃ R, R = sameK x y := ⟨_, rfl⟩
  rw [← hR]
  rw [show tkC x = #[.int .u8 (x.k : Nat), .int .i64 x.at_, .int .i64 x.n, .string x.s] from rfl, show tkC y = #[.int .u8 (y.k : Nat), .int .i64 y.at_, .int .i64 y.n, .string y.s] from rfl]
  unfold sameK at hR
  obtain ⟨k1, a1, n1, s1⟩ := x
  obtain ⟨k2, a2, n2, s2⟩ := y
  simp only at hR ⊢
  by_cases hk : k1 = k2
  · subst hk
    by_cases hn : n1 = n2
    · subst hn
      by_cases hs : s1 = s2
      · subst hs
        have HE : Hid (R = true) := Lib.hid (by rw [hR]; simp)
        clear hR
        go_enter Tryz.func38, Tryz.ntmps38
        go_wp2
        go_ret
        exact ⟨ret_eq (by rw [HE.out]; rfl), by first | exact ((((KB.refl F0 w0).alloc _).alloc _)) | exact ((((KB.refl F0 w0).alloc _).alloc _).setCell (p := ⟨_, 1, none⟩) (fun hh => by have h1 : w0.heap.size + 1 < w0.heap.size := hh; omega) _)⟩
      · have t1 : (s1.toList == s2.toList) = false := by rw [tl_beq]; exact decide_eq_false hs
        have HE : Hid (R = false) := Lib.hid (by rw [hR, decide_eq_false hs]; simp)
        clear hR
        go_enter Tryz.func38, Tryz.ntmps38
        go_wp2
        go_ret
        exact ⟨ret_eq (by rw [HE.out]; rfl), by first | exact ((((KB.refl F0 w0).alloc _).alloc _)) | exact ((((KB.refl F0 w0).alloc _).alloc _).setCell (p := ⟨_, 1, none⟩) (fun hh => by have h1 : w0.heap.size + 1 < w0.heap.size := hh; omega) _)⟩
    · have t1 : (n1 == n2) = false := by simpa using hn
      have HE : Hid (R = false) := Lib.hid (by rw [hR, decide_eq_false hn]; simp)
      clear hR
      go_enter Tryz.func38, Tryz.ntmps38
      go_wp2
      go_ret
      exact ⟨ret_eq (by rw [HE.out]; rfl), by first | exact ((((KB.refl F0 w0).alloc _).alloc _)) | exact ((((KB.refl F0 w0).alloc _).alloc _).setCell (p := ⟨_, 1, none⟩) (fun hh => by have h1 : w0.heap.size + 1 < w0.heap.size := hh; omega) _)⟩
  · have t0 : ¬ ((k1 : Int) = (k2 : Int)) := by omega
    have t1 : ((k1 : Int) == (k2 : Int)) = false := by simpa using t0
    have HE : Hid (R = false) := Lib.hid (by rw [hR, decide_eq_false hk]; simp)
    clear hR hk
    go_enter Tryz.func38, Tryz.ntmps38
    go_wp2
    go_ret
    exact ⟨ret_eq (by rw [HE.out]; rfl), by first | exact ((((KB.refl F0 w0).alloc _).alloc _)) | exact ((((KB.refl F0 w0).alloc _).alloc _).setCell (p := ⟨_, 1, none⟩) (fun hh => by have h1 : w0.heap.size + 1 < w0.heap.size := hh; omega) _)⟩
end Go.Proofs.YtcbifoimfhfccaaGreatDoor

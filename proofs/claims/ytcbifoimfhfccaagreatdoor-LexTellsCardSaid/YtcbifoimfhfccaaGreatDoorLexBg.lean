/- lex.Lex with its tokens at hand; the law's fits for every list; bytes as a text. -/
import Derived.Test.YtcbifoimfhfccaaGreatDoorLexZc
import Derived.Lib.BufferRead
namespace Go.Proofs.YtcbifoimfhfccaaGreatDoor
open Go.RowKit

theorem conv_own {w : World} {B : Nat} {v : Value} {s : ByteArray} (h : w.ownsRow B 5 1 v s.size (Lib.strCells s)) : (convert 67 9 v).run Tryz.prog w = .ok (.string s) w := by
  obtain ⟨h1, h2⟩ := h
  rcases h2 with ⟨rfl, hn⟩ | ⟨g, cap, cur, rfl, hb, hh, hr⟩
  · have : s = ⟨#[]⟩ := by
      apply ByteArray.ext
      apply Array.eq_empty_of_size_eq_zero
      exact hn
    rw [this]
    exact Lib.run_convert_nil_bytes w 67 9 5 0 Tryz.underlying67 Tryz.underlying5 Tryz.underlying9
  · have hl : s.data.toList.length = s.size := by simp
    have hc := run_convert_bytes_back w 67 9 5 ⟨g, 0, none⟩ cap s.data.toList Tryz.underlying67 Tryz.underlying5 Tryz.underlying9 (fun j hj => by
      obtain ⟨hn, hm, hcs, ht⟩ := hr
      rw [show ((⟨g, 0, none⟩ : Addr).add j) = ⟨g, j, none⟩ by unfold Addr.add; split <;> simp_all]
      have e : w.cell? ⟨g, j, none⟩ = (Lib.strCells s)[j]? := by
        rw [blk_cell hh, ← ht, List.getElem?_take_of_lt (by omega)]
        exact (Array.getElem?_toList).symm
      rw [e]
      unfold Lib.strCells
      rw [List.getElem?_map, List.getElem?_eq_getElem hj]
      rfl)
    rw [hl] at hc
    rw [hc]
/-- lex.Lex, its tokens at hand. -/
theorem lexT_any (s : ByteArray) (hs : s.size ≤ 9223372036854775807) (w : World) (hT : Tab w) :
    Calls Tryz.prog 15 #[.string s] w fun e w' => ∃ a c, e = .returned (.tuple #[.slice a (lexS s).1.length c, .int .i64 ((lexS s).2.1 : Nat), .int .i64 ((lexS s).2.2 : Nat)]) ∧ ToksAt w' a (lexS s).1 ∧ KB F0 w w' := by
  refine (lex_any s hs w hT).mono ?_
  rintro e w' ⟨v, rfl, ho, hk⟩
  obtain ⟨a, c, rfl, -, ht⟩ := ho.toks
  exact ⟨a, c, rfl, ht, hk⟩
set_option maxRecDepth 100000 in
set_option maxHeartbeats 8000000 in
theorem fits_all (ts : List Tk) (a : Option Addr) (c : Nat) (w : World) (h1 : ToksAt w a ts) :
    Calls Tryz.prog 4 #[.slice a ts.length c] w fun e w' => ∃ r : Bool, e = .returned (.bool r) ∧ (r = true → ts.length ≤ 16384 ∧ ∀ k, k < ts.length → (ts.getD k tk0).s.size ≤ 16384) ∧ KB F0 w w' := by
  by_cases hl : ts.length ≤ 4611686018427387904
  · exact fits_any ts a c w h1 hl
  · obtain ⟨w0, rfl⟩ : ∃ w0, w0 = w := ⟨_, rfl⟩
    have HD : Hid (¬ ts.length ≤ 16384) := Lib.hid (by omega)
    obtain ⟨N, hN⟩ : ∃ N, N = ts.length := ⟨_, rfl⟩
    have db : decide ((N : Int) ≤ 16384) = false := decide_eq_false (by omega)
    have d1 : decide ((0 : Int) < (N : Int)) = true := decide_eq_true (by omega)
    have d2 : 0 < N := by omega
    have d3 : ¬ N ≤ 16384 := by omega
    rw [← hN] at HD ⊢
    clear hl h1 hN
    go_enter Tryz.func4, Tryz.ntmps4
    go_wp2_with fail
    go_loopw [3, 4] (fun nv kv wr => nv = .int .i64 0 ∧ kv = .int .i64 0 ∧ wr = w0) (fun _ _ _ => 0)
    case atStart => exact ⟨rfl, rfl, rfl⟩
    case round =>
      obtain ⟨rfl, rfl, rfl⟩ := hrel
      go_wp2_with fail
      go_ret
      exact ⟨false, rfl, fun h => (by cases h), KB.refl _ _⟩
end Go.Proofs.YtcbifoimfhfccaaGreatDoor

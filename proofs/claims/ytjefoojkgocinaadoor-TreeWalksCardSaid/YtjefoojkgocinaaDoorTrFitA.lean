/- loanwordlaw03.fits. -/
import Derived.Test.YtjefoojkgocinaaDoorTrSame
namespace Go.Proofs.YtjefoojkgocinaaDoor
open Go.RowKit

set_option maxRecDepth 100000 in
set_option maxHeartbeats 8000000 in
theorem fits_any (ts : List Nd) (a : Option Addr) (cap : Nat) (hcap : ts.length ≤ cap) (_hcm : cap ≤ 9223372036854775807) (w : World) (hts : NodesAt w a ts) :
    Calls Tryd.prog 9 #[.agg #[.slice a ts.length cap]] w fun e w' => ∃ f : Bool, e = .returned (.bool f) ∧ (f = true → ts.length ≤ 16392 ∧ ∀ x ∈ ts, x.l.length ≤ 16392) ∧ KB F0 w w' := by
  obtain ⟨w0, rfl⟩ : ∃ w0, w0 = w := ⟨_, rfl⟩
  obtain ⟨N, hN⟩ : ∃ N, N = ts.length := ⟨_, rfl⟩
  rw [← hN] at hcap ⊢
  have HN := Lib.hid hN
  have HTS := Lib.hid hts
  have b0 : (w0.alloc (.cells #[.slice a N cap] 31)).cell? ⟨w0.heap.size, 0, none⟩ = some (.slice a N cap) := new_cell _ _ _ 0
  have K1 := Lib.hid ((KB.refl F0 w0).alloc (.cells #[.slice a N cap] 31))
  clear hts hN
  by_cases hbig : 16392 < N
  · have d1 : decide ((16392 : Int) < (N : Int)) = true := decide_eq_true (by omega)
    go_enter Tryd.func9, Tryd.ntmps9
    go_wp2
    go_ret
    exact ⟨false, rfl, (fun h => by cases h), K1.out⟩
  · have d1 : decide ((16392 : Int) < (N : Int)) = false := decide_eq_false (by omega)
    have hN2 : N ≤ 16392 := by omega
    go_enter Tryd.func9, Tryd.ntmps9
    go_wp2_with fail
    obtain ⟨W1, hW1⟩ : ∃ W1, W1 = (w0.alloc (.cells #[.slice a N cap] 31)) := ⟨_, rfl⟩
    rw [← hW1] at K1 b0 ⊢
    clear hW1
    have H1 := Lib.hid b0
    clear b0
    go_loopw [4, 3] (fun iv nv wr => ∃ i n : Nat, i ≤ N ∧ n ≤ 16392 ∧ iv = .int .i64 i ∧ nv = .int .i64 n ∧ KB F0 W1 wr ∧ Hid (∀ k, k < i → (ts.getD k nd0).l.length ≤ 16392)) (fun iv _ _ => N - (intOf iv).toNat)
    case atStart => exact ⟨0, 0, by omega, by omega, rfl, rfl, KB.refl _ _, Lib.hid (fun k hk => by omega)⟩
    case round =>
      obtain ⟨i, n, hi, hn, rfl, rfl, hkb, hall⟩ := hrel
      have b0 := hkb.cell (p := ⟨w0.heap.size, 0, none⟩) (fun x => x) H1.out
      have HK := Lib.hid (K1.out.trans hkb)
      have HK1 := Lib.hid hkb
      by_cases hlt : i < N
      · obtain ⟨b, off, rfl, hnd0⟩ := HTS.out i (by rw [← HN.out]; exact hlt)
        obtain ⟨la, lc, hl4, -, hlc, hlm⟩ := (hnd0.kbF HK.out).l
        have hnx : Hid ((ts.getD i nd0).l.length ≤ 16392 → ∀ k, k < i + 1 → (ts.getD k nd0).l.length ≤ 16392) := Lib.hid (fun h k hk => by
          rcases Nat.lt_or_eq_of_le (Nat.lt_succ_iff.1 hk) with h' | rfl
          · exact hall.out k h'
          · exact h)
        generalize (ts.getD i nd0).l.length = M at hl4 hlc hnx
        unfold maxLen at hlm
        have hiN : (i : Int) < (N : Int) := by omega
        clear hnd0 hkb hall
        by_cases hM : 16392 - n < M
        · have d2 : decide ((16392 : Int) - (n : Int) < (M : Int)) = true := decide_eq_true (by omega)
          have hwr : IntKind.i64.wrap (16392 - (n : Int)) = 16392 - (n : Int) := w64 (by omega) (by omega)
          go_wp2
          go_ret
          exact ⟨false, rfl, (fun h => by cases h), HK.out⟩
        · have d2 : decide ((16392 : Int) - (n : Int) < (M : Int)) = false := decide_eq_false (by omega)
          have hwr : IntKind.i64.wrap (16392 - (n : Int)) = 16392 - (n : Int) := w64 (by omega) (by omega)
          have hall2 := Lib.hid (hnx.out (by omega))
          have hnM : n + M ≤ 16392 := by omega
          go_wp2
          go_roundw
          case rel => exact ⟨i + 1, n + M, by omega, by omega, by go_num, by go_num, HK1.out, hall2⟩
          case measure => simp [intOf]; omega
      · obtain rfl : i = N := by omega
        clear hkb
        go_wp2
        go_ret
        refine ⟨true, rfl, fun _ => ⟨hN2, fun x hx => ?_⟩, HK.out⟩
        obtain ⟨k, hk, rfl⟩ := List.getElem_of_mem hx
        have := hall.out k (by rw [HN.out]; exact hk)
        rwa [List.getD_eq_getElem?_getD, List.getElem?_eq_getElem hk] at this

end Go.Proofs.YtjefoojkgocinaaDoor

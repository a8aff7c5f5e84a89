/- loanwordlaw09.fits of places alone; what Read answers is small. -/
import Derived.Test.YtpigppghcghpbaaGreatDoorPlV
namespace Go.Proofs.YtpigppghcghpbaaGreatDoor
open Go.RowKit

theorem numL_le {l : List UInt8} {v : Nat} (h : numL l = some v) : v ≤ 9223372036854775807 := (numL_iff.1 h).2
theorem stepL_64 {p : List UInt8} {k : Int} (h : stepL p = some k) : In64 k := by
  unfold stepL at h
  split at h
  · simp only [Option.some.injEq] at h
    subst h
    exact ⟨by decide, by decide⟩
  · cases hn : numL p with
    | none => rw [hn] at h; cases h
    | some v =>
      rw [hn] at h
      have h2 : (v : Int) = k := Option.some.inj h
      have h3 := numL_le hn
      subst h2
      exact ⟨by omega, by omega⟩
theorem stepsL_64 : ∀ (ps : List (List UInt8)) (ks : List Int), stepsL ps = some ks → ks.length = ps.length ∧ ∀ k ∈ ks, In64 k := by
  intro ps
  induction ps with
  | nil =>
    intro ks h
    have h2 : [] = ks := Option.some.inj h
    subst h2
    exact ⟨rfl, fun k hk => by cases hk⟩
  | cons p ps ih =>
    intro ks h
    rw [stepsL] at h
    cases h1 : stepL p with
    | none => rw [h1] at h; cases h
    | some k =>
      cases h2 : stepsL ps with
      | none => rw [h1, h2] at h; cases h
      | some ks2 =>
        rw [h1, h2] at h
        have h3 : k :: ks2 = ks := Option.some.inj h
        subst h3
        obtain ⟨e1, e2⟩ := ih ks2 h2
        refine ⟨by simp [e1], fun y hy => ?_⟩
        rcases List.mem_cons.1 hy with rfl | hy
        · exact stepL_64 h1
        · exact e2 y hy
theorem rdL_small {l : List UInt8} {q : Pl} (h : rdL l = some q) : q.path.length ≤ 8 ∧ Pl64 q := by
  unfold rdL at h
  split at h
  · rename_i r
    obtain ⟨a, ps, hs, -⟩ := splL_parts r
    rw [hs] at h
    simp only at h
    by_cases h8 : 8 < ps.length
    · rw [if_pos h8] at h; cases h
    · rw [if_neg h8] at h
      cases h1 : numL a with
      | none => rw [h1] at h; cases h
      | some v =>
        cases h2 : stepsL ps with
        | none => rw [h1, h2] at h; cases h
        | some ks =>
          rw [h1, h2] at h
          have h3 : (⟨(v : Int), ks⟩ : Pl) = q := Option.some.inj h
          subst h3
          obtain ⟨e1, e2⟩ := stepsL_64 ps ks h2
          have h4 := numL_le h1
          exact ⟨by simp only; omega, ⟨by simp only; omega, by simp only; omega⟩, e2⟩
  · cases h
set_option maxRecDepth 100000 in
set_option maxHeartbeats 8000000 in
theorem fits1_any (b : Nat) (a0 : Option Addr) (N0 c0 : Nat) (w : World) (h0 : w.cell? ⟨b, 1, none⟩ = some (.slice a0 N0 c0)) :
    Calls Tryz.prog 9 #[.slice none 0 0, .slice none 0 0, .slice (some ⟨b, 0, none⟩) 1 1] w fun e w' => e = .returned (.bool (decide (N0 ≤ 60))) ∧ w' = w := by
  obtain ⟨w0, rfl⟩ : ∃ w0, w0 = w := ⟨_, rfl⟩
  go_enter Tryz.func9, Tryz.ntmps9
  go_wp2_with fail
  go_loopw [7] (fun kv wr => kv = .int .i64 0 ∧ w0 = wr) (fun _ _ => 0)
  case atStart => exact ⟨rfl, rfl⟩
  case round =>
    obtain ⟨rfl, rfl⟩ := hrel
    go_wp2_with fail
    go_loopw [9] (fun kv wr => kv = .int .i64 0 ∧ w0 = wr) (fun _ _ => 0)
    case atStart => exact ⟨rfl, rfl⟩
    case round =>
      obtain ⟨rfl, rfl⟩ := hrel
      go_wp2_with fail
      go_loopw [10] (fun kv wr => ∃ k : Nat, k ≤ 1 ∧ kv = .int .i64 (k : Nat) ∧ w0 = wr ∧ Hid ((0 < k → N0 ≤ 60))) (fun kv _ => 1 - (intOf kv).toNat)
      case atStart => exact ⟨0, by omega, rfl, rfl, Lib.hid (fun h => by omega)⟩
      case round =>
        obtain ⟨k, hk, rfl, rfl, hall⟩ := hrel
        obtain rfl | rfl : k = 0 ∨ k = 1 := by omega
        · by_cases h : N0 ≤ 60
          · have d1 : decide ((60 : Int) < (N0 : Int)) = false := decide_eq_false (by omega)
            have d1n : decide (60 < N0) = false := decide_eq_false (by omega)
            have HH := Lib.hid h
            clear h
            go_wp2_with fail
            refine ⟨⟨1, by omega, rfl, trivial, Lib.hid (fun _ => HH.out)⟩, by simp [intOf]⟩
          · have d1 : decide ((60 : Int) < (N0 : Int)) = true := decide_eq_true (by omega)
            have d1n : decide (60 < N0) = true := decide_eq_true (by omega)
            have HE : Hid (decide (N0 ≤ 60) = false) := Lib.hid (decide_eq_false (fun hh => h (by omega)))
            clear h
            go_wp2_with fail
            go_ret
            exact ⟨ret_eq (by rw [HE.out]; rfl), rfl⟩
        · have HE : Hid (decide (N0 ≤ 60) = true) := Lib.hid (decide_eq_true (by have := hall.out; omega))
          go_wp2_with fail
          go_ret
          exact ⟨ret_eq (by rw [HE.out]; rfl), rfl⟩
set_option maxRecDepth 100000 in
set_option maxHeartbeats 8000000 in
theorem fits2_any (b : Nat) (a0 : Option Addr) (N0 c0 : Nat) (a1 : Option Addr) (N1 c1 : Nat) (w : World) (h0 : w.cell? ⟨b, 1, none⟩ = some (.slice a0 N0 c0)) (h1 : w.cell? ⟨b, 3, none⟩ = some (.slice a1 N1 c1)) :
    Calls Tryz.prog 9 #[.slice none 0 0, .slice none 0 0, .slice (some ⟨b, 0, none⟩) 2 2] w fun e w' => e = .returned (.bool (decide (N0 ≤ 60 ∧ N1 ≤ 60))) ∧ w' = w := by
  obtain ⟨w0, rfl⟩ : ∃ w0, w0 = w := ⟨_, rfl⟩
  go_enter Tryz.func9, Tryz.ntmps9
  go_wp2_with fail
  go_loopw [7] (fun kv wr => kv = .int .i64 0 ∧ w0 = wr) (fun _ _ => 0)
  case atStart => exact ⟨rfl, rfl⟩
  case round =>
    obtain ⟨rfl, rfl⟩ := hrel
    go_wp2_with fail
    go_loopw [9] (fun kv wr => kv = .int .i64 0 ∧ w0 = wr) (fun _ _ => 0)
    case atStart => exact ⟨rfl, rfl⟩
    case round =>
      obtain ⟨rfl, rfl⟩ := hrel
      go_wp2_with fail
      go_loopw [10] (fun kv wr => ∃ k : Nat, k ≤ 2 ∧ kv = .int .i64 (k : Nat) ∧ w0 = wr ∧ Hid ((0 < k → N0 ≤ 60) ∧ (1 < k → N1 ≤ 60))) (fun kv _ => 2 - (intOf kv).toNat)
      case atStart => exact ⟨0, by omega, rfl, rfl, Lib.hid (⟨fun h => by omega, fun h => by omega⟩)⟩
      case round =>
        obtain ⟨k, hk, rfl, rfl, hall⟩ := hrel
        obtain rfl | rfl | rfl : k = 0 ∨ k = 1 ∨ k = 2 := by omega
        · by_cases h : N0 ≤ 60
          · have d1 : decide ((60 : Int) < (N0 : Int)) = false := decide_eq_false (by omega)
            have d1n : decide (60 < N0) = false := decide_eq_false (by omega)
            have HH := Lib.hid h
            clear h
            go_wp2_with fail
            refine ⟨⟨1, by omega, rfl, trivial, Lib.hid (⟨fun _ => HH.out, fun h => by omega⟩)⟩, by simp [intOf]⟩
          · have d1 : decide ((60 : Int) < (N0 : Int)) = true := decide_eq_true (by omega)
            have d1n : decide (60 < N0) = true := decide_eq_true (by omega)
            have HE : Hid (decide (N0 ≤ 60 ∧ N1 ≤ 60) = false) := Lib.hid (decide_eq_false (fun hh => h (by omega)))
            clear h
            go_wp2_with fail
            go_ret
            exact ⟨ret_eq (by rw [HE.out]; rfl), rfl⟩
        · by_cases h : N1 ≤ 60
          · have d1 : decide ((60 : Int) < (N1 : Int)) = false := decide_eq_false (by omega)
            have d1n : decide (60 < N1) = false := decide_eq_false (by omega)
            have HH := Lib.hid h
            clear h
            go_wp2_with fail
            refine ⟨⟨2, by omega, rfl, trivial, Lib.hid (⟨fun _ => hall.out.1 (by omega), fun _ => HH.out⟩)⟩, by simp [intOf]⟩
          · have d1 : decide ((60 : Int) < (N1 : Int)) = true := decide_eq_true (by omega)
            have d1n : decide (60 < N1) = true := decide_eq_true (by omega)
            have HE : Hid (decide (N0 ≤ 60 ∧ N1 ≤ 60) = false) := Lib.hid (decide_eq_false (fun hh => h (by omega)))
            clear h
            go_wp2_with fail
            go_ret
            exact ⟨ret_eq (by rw [HE.out]; rfl), rfl⟩
        · have HE : Hid (decide (N0 ≤ 60 ∧ N1 ≤ 60) = true) := Lib.hid (decide_eq_true (by have := hall.out; omega))
          go_wp2_with fail
          go_ret
          exact ⟨ret_eq (by rw [HE.out]; rfl), rfl⟩
set_option maxRecDepth 100000 in
set_option maxHeartbeats 8000000 in
theorem fits3_any (b : Nat) (a0 : Option Addr) (N0 c0 : Nat) (a1 : Option Addr) (N1 c1 : Nat) (a2 : Option Addr) (N2 c2 : Nat) (w : World) (h0 : w.cell? ⟨b, 1, none⟩ = some (.slice a0 N0 c0)) (h1 : w.cell? ⟨b, 3, none⟩ = some (.slice a1 N1 c1)) (h2 : w.cell? ⟨b, 5, none⟩ = some (.slice a2 N2 c2)) :
    Calls Tryz.prog 9 #[.slice none 0 0, .slice none 0 0, .slice (some ⟨b, 0, none⟩) 3 3] w fun e w' => e = .returned (.bool (decide (N0 ≤ 60 ∧ N1 ≤ 60 ∧ N2 ≤ 60))) ∧ w' = w := by
  obtain ⟨w0, rfl⟩ : ∃ w0, w0 = w := ⟨_, rfl⟩
  go_enter Tryz.func9, Tryz.ntmps9
  go_wp2_with fail
  go_loopw [7] (fun kv wr => kv = .int .i64 0 ∧ w0 = wr) (fun _ _ => 0)
  case atStart => exact ⟨rfl, rfl⟩
  case round =>
    obtain ⟨rfl, rfl⟩ := hrel
    go_wp2_with fail
    go_loopw [9] (fun kv wr => kv = .int .i64 0 ∧ w0 = wr) (fun _ _ => 0)
    case atStart => exact ⟨rfl, rfl⟩
    case round =>
      obtain ⟨rfl, rfl⟩ := hrel
      go_wp2_with fail
      go_loopw [10] (fun kv wr => ∃ k : Nat, k ≤ 3 ∧ kv = .int .i64 (k : Nat) ∧ w0 = wr ∧ Hid ((0 < k → N0 ≤ 60) ∧ (1 < k → N1 ≤ 60) ∧ (2 < k → N2 ≤ 60))) (fun kv _ => 3 - (intOf kv).toNat)
      case atStart => exact ⟨0, by omega, rfl, rfl, Lib.hid (⟨fun h => by omega, fun h => by omega, fun h => by omega⟩)⟩
      case round =>
        obtain ⟨k, hk, rfl, rfl, hall⟩ := hrel
        obtain rfl | rfl | rfl | rfl : k = 0 ∨ k = 1 ∨ k = 2 ∨ k = 3 := by omega
        · by_cases h : N0 ≤ 60
          · have d1 : decide ((60 : Int) < (N0 : Int)) = false := decide_eq_false (by omega)
            have d1n : decide (60 < N0) = false := decide_eq_false (by omega)
            have HH := Lib.hid h
            clear h
            go_wp2_with fail
            refine ⟨⟨1, by omega, rfl, trivial, Lib.hid (⟨fun _ => HH.out, fun h => by omega, fun h => by omega⟩)⟩, by simp [intOf]⟩
          · have d1 : decide ((60 : Int) < (N0 : Int)) = true := decide_eq_true (by omega)
            have d1n : decide (60 < N0) = true := decide_eq_true (by omega)
            have HE : Hid (decide (N0 ≤ 60 ∧ N1 ≤ 60 ∧ N2 ≤ 60) = false) := Lib.hid (decide_eq_false (fun hh => h (by omega)))
            clear h
            go_wp2_with fail
            go_ret
            exact ⟨ret_eq (by rw [HE.out]; rfl), rfl⟩
        · by_cases h : N1 ≤ 60
          · have d1 : decide ((60 : Int) < (N1 : Int)) = false := decide_eq_false (by omega)
            have d1n : decide (60 < N1) = false := decide_eq_false (by omega)
            have HH := Lib.hid h
            clear h
            go_wp2_with fail
            refine ⟨⟨2, by omega, rfl, trivial, Lib.hid (⟨fun _ => hall.out.1 (by omega), fun _ => HH.out, fun h => by omega⟩)⟩, by simp [intOf]⟩
          · have d1 : decide ((60 : Int) < (N1 : Int)) = true := decide_eq_true (by omega)
            have d1n : decide (60 < N1) = true := decide_eq_true (by omega)
            have HE : Hid (decide (N0 ≤ 60 ∧ N1 ≤ 60 ∧ N2 ≤ 60) = false) := Lib.hid (decide_eq_false (fun hh => h (by omega)))
            clear h
            go_wp2_with fail
            go_ret
            exact ⟨ret_eq (by rw [HE.out]; rfl), rfl⟩
        · by_cases h : N2 ≤ 60
          · have d1 : decide ((60 : Int) < (N2 : Int)) = false := decide_eq_false (by omega)
            have d1n : decide (60 < N2) = false := decide_eq_false (by omega)
            have HH := Lib.hid h
            clear h
            go_wp2_with fail
            refine ⟨⟨3, by omega, rfl, trivial, Lib.hid (⟨fun _ => hall.out.1 (by omega), fun _ => hall.out.2.1 (by omega), fun _ => HH.out⟩)⟩, by simp [intOf]⟩
          · have d1 : decide ((60 : Int) < (N2 : Int)) = true := decide_eq_true (by omega)
            have d1n : decide (60 < N2) = true := decide_eq_true (by omega)
            have HE : Hid (decide (N0 ≤ 60 ∧ N1 ≤ 60 ∧ N2 ≤ 60) = false) := Lib.hid (decide_eq_false (fun hh => h (by omega)))
            clear h
            go_wp2_with fail
            go_ret
            exact ⟨ret_eq (by rw [HE.out]; rfl), rfl⟩
        · have HE : Hid (decide (N0 ≤ 60 ∧ N1 ≤ 60 ∧ N2 ≤ 60) = true) := Lib.hid (decide_eq_true (by have := hall.out; omega))
          go_wp2_with fail
          go_ret
          exact ⟨ret_eq (by rw [HE.out]; rfl), rfl⟩
end Go.Proofs.YtpigppghcghpbaaGreatDoor

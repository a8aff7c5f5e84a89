/- loanwordlaw09.fits of places alone; what Read answers is small. loanwordref09.Text. -/
import Derived.Test.YtpigppghcghpbaaGreatDoorPlV
namespace Go.Proofs.YtpigppghcghpbaaGreatDoor
open Go.RowKit

theorem numL_le {l : List UInt8} {v : Nat} (h : numL l = some v) : v ≤ 9223372036854775807 := (numL_iff.1 h).2
theorem stepL_64 {p : List UInt8} {k : Int} (h : stepL p = some k) : In64 k := by
  unfold stepL at h
  split at h
  · simp only [Option.some.injEq] at h
    subst h
    exact ⟨by decide, by decide⟩
  · cases hn : numL p with
    | none => rw [hn] at h; cases h
    | some v =>
      rw [hn] at h
      have h2 : (v : Int) = k := Option.some.inj h
      have h3 := numL_le hn
      subst h2
      exact ⟨by omega, by omega⟩
theorem stepsL_64 : ∀ (ps : List (List UInt8)) (ks : List Int), stepsL ps = some ks → ks.length = ps.length ∧ ∀ k ∈ ks, In64 k := by
  intro ps
  induction ps with
  | nil =>
    intro ks h
    have h2 : [] = ks := Option.some.inj h
    subst h2
    exact ⟨rfl, fun k hk => by cases hk⟩
  | cons p ps ih =>
    intro ks h
    rw [stepsL] at h
    cases h1 : stepL p with
    | none => rw [h1] at h; cases h
    | some k =>
      cases h2 : stepsL ps with
      | none => rw [h1, h2] at h; cases h
      | some ks2 =>
        rw [h1, h2] at h
        have h3 : k :: ks2 = ks := Option.some.inj h
        subst h3
        obtain ⟨e1, e2⟩ := ih ks2 h2
        refine ⟨by simp [e1], fun y hy => ?_⟩
        rcases List.mem_cons.1 hy with rfl | hy
        · exact stepL_64 h1
        · exact e2 y hy
theorem rdL_small {l : List UInt8} {q : Pl} (h : rdL l = some q) : q.path.length ≤ 8 ∧ Pl64 q := by
  unfold rdL at h
  split at h
  · rename_i r
    obtain ⟨a, ps, hs, -⟩ := splL_parts r
    rw [hs] at h
    simp only at h
    by_cases h8 : 8 < ps.length
    · rw [if_pos h8] at h; cases h
    · rw [if_neg h8] at h
      cases h1 : numL a with
      | none => rw [h1] at h; cases h
      | some v =>
        cases h2 : stepsL ps with
        | none => rw [h1, h2] at h; cases h
        | some ks =>
          rw [h1, h2] at h
          have h3 : (⟨(v : Int), ks⟩ : Pl) = q := Option.some.inj h
          subst h3
          obtain ⟨e1, e2⟩ := stepsL_64 ps ks h2
          have h4 := numL_le h1
          exact ⟨by simp only; omega, ⟨by simp only; omega, by simp only; omega⟩, e2⟩
  · cases h
set_option maxRecDepth 100000 in
set_option maxHeartbeats 8000000 in
theorem fits1_any (b : Nat) (a0 : Option Addr) (N0 c0 : Nat) (w : World) (h0 : w.cell? ⟨b, 1, none⟩ = some (.slice a0 N0 c0)) :
    Calls Tryz.prog 9 #[.slice none 0 0, .slice none 0 0, .slice (some ⟨b, 0, none⟩) 1 1] w fun e w' => e = .returned (.bool (decide (N0 ≤ 60))) ∧ w' = w := by
  obtain ⟨w0, rfl⟩ : ∃ w0, w0 = w := ⟨_, rfl⟩
  go_enter Tryz.func9, Tryz.ntmps9
  go_wp2_with fail
  go_loopw [7] (fun kv wr => kv = .int .i64 0 ∧ w0 = wr) (fun _ _ => 0)
  case atStart => exact ⟨rfl, rfl⟩
  case round =>
    obtain ⟨rfl, rfl⟩ := hrel
    go_wp2_with fail
    go_loopw [9] (fun kv wr => kv = .int .i64 0 ∧ w0 = wr) (fun _ _ => 0)
    case atStart => exact ⟨rfl, rfl⟩
    case round =>
      obtain ⟨rfl, rfl⟩ := hrel
      go_wp2_with fail
      go_loopw [10] (fun kv wr => ∃ k : Nat, k ≤ 1 ∧ kv = .int .i64 (k : Nat) ∧ w0 = wr ∧ Hid ((0 < k → N0 ≤ 60))) (fun kv _ => 1 - (intOf kv).toNat)
      case atStart => exact ⟨0, by omega, rfl, rfl, Lib.hid (fun h => by omega)⟩
      case round =>
        obtain ⟨k, hk, rfl, rfl, hall⟩ := hrel
        obtain rfl | rfl : k = 0 ∨ k = 1 := by omega
        · by_cases h : N0 ≤ 60
          · have d1 : decide ((60 : Int) < (N0 : Int)) = false := decide_eq_false (by omega)
            have d1n : decide (60 < N0) = false := decide_eq_false (by omega)
            have HH := Lib.hid h
            clear h
            go_wp2_with fail
            refine ⟨⟨1, by omega, rfl, trivial, Lib.hid (fun _ => HH.out)⟩, by simp [intOf]⟩
          · have d1 : decide ((60 : Int) < (N0 : Int)) = true := decide_eq_true (by omega)
            have d1n : decide (60 < N0) = true := decide_eq_true (by omega)
            have HE : Hid (decide (N0 ≤ 60) = false) := Lib.hid (decide_eq_false (fun hh => h (by omega)))
            clear h
            go_wp2_with fail
            go_ret
            exact ⟨ret_eq (by rw [HE.out]; rfl), rfl⟩
        · have HE : Hid (decide (N0 ≤ 60) = true) := Lib.hid (decide_eq_true (by have := hall.out; omega))
          go_wp2_with fail
          go_ret
          exact ⟨ret_eq (by rw [HE.out]; rfl), rfl⟩
set_option maxRecDepth 100000 in
set_option maxHeartbeats 8000000 in
theorem fits2_any (b : Nat) (a0 : Option Addr) (N0 c0 : Nat) (a1 : Option Addr) (N1 c1 : Nat) (w : World) (h0 : w.cell? ⟨b, 1, none⟩ = some (.slice a0 N0 c0)) (h1 : w.cell? ⟨b, 3, none⟩ = some (.slice a1 N1 c1)) :
    Calls Tryz.prog 9 #[.slice none 0 0, .slice none 0 0, .slice (some ⟨b, 0, none⟩) 2 2] w fun e w' => e = .returned (.bool (decide (N0 ≤ 60 ∧ N1 ≤ 60))) ∧ w' = w := by
  obtain ⟨w0, rfl⟩ : ∃ w0, w0 = w := ⟨_, rfl⟩
  go_enter Tryz.func9, Tryz.ntmps9
  go_wp2_with fail
  go_loopw [7] (fun kv wr => kv = .int .i64 0 ∧ w0 = wr) (fun _ _ => 0)
  case atStart => exact ⟨rfl, rfl⟩
  case round =>
    obtain ⟨rfl, rfl⟩ := hrel
    go_wp2_with fail
    go_loopw [9] (fun kv wr => kv = .int .i64 0 ∧ w0 = wr) (fun _ _ => 0)
    case atStart => exact ⟨rfl, rfl⟩
    case round =>
      obtain ⟨rfl, rfl⟩ := hrel
      go_wp2_with fail
      go_loopw [10] (fun kv wr => ∃ k : Nat, k ≤ 2 ∧ kv = .int .i64 (k : Nat) ∧ w0 = wr ∧ Hid ((0 < k → N0 ≤ 60) ∧ (1 < k → N1 ≤ 60))) (fun kv _ => 2 - (intOf kv).toNat)
      case atStart => exact ⟨0, by omega, rfl, rfl, Lib.hid (⟨fun h => by omega, fun h => by omega⟩)⟩
      case round =>
        obtain ⟨k, hk, rfl, rfl, hall⟩ := hrel
        obtain rfl | rfl | rfl : k = 0 ∨ k = 1 ∨ k = 2 := by omega
        · by_cases h : N0 ≤ 60
          · have d1 : decide ((60 : Int) < (N0 : Int)) = false := decide_eq_false (by omega)
            have d1n : decide (60 < N0) = false := decide_eq_false (by omega)
            have HH := Lib.hid h
            clear h
            go_wp2_with fail
            refine ⟨⟨1, by omega, rfl, trivial, Lib.hid (⟨fun _ => HH.out, fun h => by omega⟩)⟩, by simp [intOf]⟩
          · have d1 : decide ((60 : Int) < (N0 : Int)) = true := decide_eq_true (by omega)
            have d1n : decide (60 < N0) = true := decide_eq_true (by omega)
            have HE : Hid (decide (N0 ≤ 60 ∧ N1 ≤ 60) = false) := Lib.hid (decide_eq_false (fun hh => h (by omega)))
            clear h
            go_wp2_with fail
            go_ret
            exact ⟨ret_eq (by rw [HE.out]; rfl), rfl⟩
        · by_cases h : N1 ≤ 60
          · have d1 : decide ((60 : Int) < (N1 : Int)) = false := decide_eq_false (by omega)
            have d1n : decide (60 < N1) = false := decide_eq_false (by omega)
            have HH := Lib.hid h
            clear h
            go_wp2_with fail
            refine ⟨⟨2, by omega, rfl, trivial, Lib.hid (⟨fun _ => hall.out.1 (by omega), fun _ => HH.out⟩)⟩, by simp [intOf]⟩
          · have d1 : decide ((60 : Int) < (N1 : Int)) = true := decide_eq_true (by omega)
            have d1n : decide (60 < N1) = true := decide_eq_true (by omega)
            have HE : Hid (decide (N0 ≤ 60 ∧ N1 ≤ 60) = false) := Lib.hid (decide_eq_false (fun hh => h (by omega)))
            clear h
            go_wp2_with fail
            go_ret
            exact ⟨ret_eq (by rw [HE.out]; rfl), rfl⟩
        · have HE : Hid (decide (N0 ≤ 60 ∧ N1 ≤ 60) = true) := Lib.hid (decide_eq_true (by have := hall.out; omega))
          go_wp2_with fail
          go_ret
          exact ⟨ret_eq (by rw [HE.out]; rfl), rfl⟩
set_option maxRecDepth 100000 in
set_option maxHeartbeats 8000000 in
theorem fits3_any (b : Nat) (a0 : Option Addr) (N0 c0 : Nat) (a1 : Option Addr) (N1 c1 : Nat) (a2 : Option Addr) (N2 c2 : Nat) (w : World) (h0 : w.cell? ⟨b, 1, none⟩ = some (.slice a0 N0 c0)) (h1 : w.cell? ⟨b, 3, none⟩ = some (.slice a1 N1 c1)) (h2 : w.cell? ⟨b, 5, none⟩ = some (.slice a2 N2 c2)) :
    Calls Tryz.prog 9 #[.slice none 0 0, .slice none 0 0, .slice (some ⟨b, 0, none⟩) 3 3] w fun e w' => e = .returned (.bool (decide (N0 ≤ 60 ∧ N1 ≤ 60 ∧ N2 ≤ 60))) ∧ w' = w := by
  obtain ⟨w0, rfl⟩ : ∃ w0, w0 = w := ⟨_, rfl⟩
  go_enter Tryz.func9, Tryz.ntmps9
  go_wp2_with fail
  go_loopw [7] (fun kv wr => kv = .int .i64 0 ∧ w0 = wr) (fun _ _ => 0)
  case atStart => exact ⟨rfl, rfl⟩
  case round =>
    obtain ⟨rfl, rfl⟩ := hrel
    go_wp2_with fail
    go_loopw [9] (fun kv wr => kv = .int .i64 0 ∧ w0 = wr) (fun _ _ => 0)
    case atStart => exact ⟨rfl, rfl⟩
    case round =>
      obtain ⟨rfl, rfl⟩ := hrel
      go_wp2_with fail
      go_loopw [10] (fun kv wr => ∃ k : Nat, k ≤ 3 ∧ kv = .int .i64 (k : Nat) ∧ w0 = wr ∧ Hid ((0 < k → N0 ≤ 60) ∧ (1 < k → N1 ≤ 60) ∧ (2 < k → N2 ≤ 60))) (fun kv _ => 3 - (intOf kv).toNat)
      case atStart => exact ⟨0, by omega, rfl, rfl, Lib.hid (⟨fun h => by omega, fun h => by omega, fun h => by omega⟩)⟩
      case round =>
        obtain ⟨k, hk, rfl, rfl, hall⟩ := hrel
        obtain rfl | rfl | rfl | rfl : k = 0 ∨ k = 1 ∨ k = 2 ∨ k = 3 := by omega
        · by_cases h : N0 ≤ 60
          · have d1 : decide ((60 : Int) < (N0 : Int)) = false := decide_eq_false (by omega)
            have d1n : decide (60 < N0) = false := decide_eq_false (by omega)
            have HH := Lib.hid h
            clear h
            go_wp2_with fail
            refine ⟨⟨1, by omega, rfl, trivial, Lib.hid (⟨fun _ => HH.out, fun h => by omega, fun h => by omega⟩)⟩, by simp [intOf]⟩
          · have d1 : decide ((60 : Int) < (N0 : Int)) = true := decide_eq_true (by omega)
            have d1n : decide (60 < N0) = true := decide_eq_true (by omega)
            have HE : Hid (decide (N0 ≤ 60 ∧ N1 ≤ 60 ∧ N2 ≤ 60) = false) := Lib.hid (decide_eq_false (fun hh => h (by omega)))
            clear h
            go_wp2_with fail
            go_ret
            exact ⟨ret_eq (by rw [HE.out]; rfl), rfl⟩
        · by_cases h : N1 ≤ 60
          · have d1 : decide ((60 : Int) < (N1 : Int)) = false := decide_eq_false (by omega)
            have d1n : decide (60 < N1) = false := decide_eq_false (by omega)
            have HH := Lib.hid h
            clear h
            go_wp2_with fail
            refine ⟨⟨2, by omega, rfl, trivial, Lib.hid (⟨fun _ => hall.out.1 (by omega), fun _ => HH.out, fun h => by omega⟩)⟩, by simp [intOf]⟩
          · have d1 : decide ((60 : Int) < (N1 : Int)) = true := decide_eq_true (by omega)
            have d1n : decide (60 < N1) = true := decide_eq_true (by omega)
            have HE : Hid (decide (N0 ≤ 60 ∧ N1 ≤ 60 ∧ N2 ≤ 60) = false) := Lib.hid (decide_eq_false (fun hh => h (by omega)))
            clear h
            go_wp2_with fail
            go_ret
            exact ⟨ret_eq (by rw [HE.out]; rfl), rfl⟩
        · by_cases h : N2 ≤ 60
          · have d1 : decide ((60 : Int) < (N2 : Int)) = false := decide_eq_false (by omega)
            have d1n : decide (60 < N2) = false := decide_eq_false (by omega)
            have HH := Lib.hid h
            clear h
            go_wp2_with fail
            refine ⟨⟨3, by omega, rfl, trivial, Lib.hid (⟨fun _ => hall.out.1 (by omega), fun _ => hall.out.2.1 (by omega), fun _ => HH.out⟩)⟩, by simp [intOf]⟩
          · have d1 : decide ((60 : Int) < (N2 : Int)) = true := decide_eq_true (by omega)
            have d1n : decide (60 < N2) = true := decide_eq_true (by omega)
            have HE : Hid (decide (N0 ≤ 60 ∧ N1 ≤ 60 ∧ N2 ≤ 60) = false) := Lib.hid (decide_eq_false (fun hh => h (by omega)))
            clear h
            go_wp2_with fail
            go_ret
            exact ⟨ret_eq (by rw [HE.out]; rfl), rfl⟩
        · have HE : Hid (decide (N0 ≤ 60 ∧ N1 ≤ 60 ∧ N2 ≤ 60) = true) := Lib.hid (decide_eq_true (by have := hall.out; omega))
          go_wp2_with fail
          go_ret
          exact ⟨ret_eq (by rw [HE.out]; rfl), rfl⟩
end Go.Proofs.YtpigppghcghpbaaGreatDoor

namespace Go.Proofs.YtpigppghcghpbaaGreatDoor
open Go.RowKit

set_option maxRecDepth 100000 in
set_option maxHeartbeats 8000000 in
theorem rtext_any (p : Pl) (h64 : Pl64 p) (a : Option Addr) (c : Nat) (w : World) (hT : TabP w) (h : PlAt w p a c) :
    Calls Tryz.prog 23 #[plV p a c] w fun e w' => e = .returned (.string ⟨(textP p).toArray⟩) ∧ KB F0 w w' := by
  obtain ⟨w0, rfl⟩ : ∃ w0, w0 = w := ⟨_, rfl⟩
  have hsm := h.small
  obtain ⟨N, hN⟩ : ∃ N, N = p.path.length := ⟨_, rfl⟩
  obtain ⟨T, hT'⟩ : ∃ T, T = txtB p := ⟨_, rfl⟩
  obtain ⟨R, hR⟩ : ∃ R : ByteArray, R = ⟨(textP p).toArray⟩ := ⟨_, rfl⟩
  obtain ⟨x, hx⟩ : ∃ x, x = p.loc := ⟨_, rfl⟩
  rw [← hR]
  have HNeg : Hid (x < 0 → R = ⟨#[]⟩) := Lib.hid (fun h => by rw [hR, textP, if_pos (badP_neg (by rw [← hx]; exact h))])
  have HBad : Hid (∀ k, k < N → p.path.getD k 0 < -1 → R = ⟨#[]⟩) := Lib.hid (fun k hk h => by rw [hR, textP, if_pos (badP_at (by rw [← hN]; exact hk) h)])
  have HAll : Hid (0 ≤ x → (∀ k, k < N → -1 ≤ p.path.getD k 0) → R = T N) := Lib.hid (fun h0 h => by rw [hR, hT', hN, txtB_all (badP_no (by rw [← hx]; omega) (fun k hk => by have := h k (by rw [hN]; exact hk); omega))])
  have HSz : Hid (∀ k, k ≤ N → (T k).size ≤ 22 + 22 * k) := Lib.hid (fun k hk => by rw [hT']; exact txtB_size h64 k (by rw [← hN]; exact hk))
  have HSucc : Hid (∀ k, k < N → T (k + 1) = T k ++ ⟨(46 :: tailT (p.path.getD k 0)).toArray⟩) := Lib.hid (fun k hk => by rw [hT']; exact txtB_succ (by rw [← hN]; exact hk))
  have H64 : Hid (∀ k, k < N → In64 (p.path.getD k 0)) := Lib.hid (fun k hk => h64.2 _ (by rw [List.getD_eq_getElem?_getD, List.getElem?_eq_getElem (show k < p.path.length by rw [← hN]; exact hk)]; exact List.getElem_mem _))
  have H0 : Hid (T 0 = ⟨(95 :: Lib.itoa x).toArray⟩) := Lib.hid (by rw [hT', hx]; simp [txtB, txtL, dotL])
  have HX := Lib.hid (show In64 x by rw [hx]; exact h64.1)
  have HI : Hid (∀ k, k < N → ∃ b off, a = some ⟨b, off, none⟩ ∧ w0.cell? ⟨b, off + k, none⟩ = some (.int .i64 (p.path.getD k 0))) := Lib.hid (fun k hk => h.ints k (by rw [← hN]; exact hk))
  have HT := Lib.hid hT
  unfold plV
  rw [← hx, ← hN]
  rw [← hN] at hsm
  generalize p.path.getD = P at HBad HAll HSucc H64 HI
  clear hN hT' hR hx h h64 hT
  obtain ⟨W1, hW1⟩ : ∃ W1, W1 = w0.alloc (.cells #[.int .i64 x, .slice a N c] 26) := ⟨_, rfl⟩
  have hb1 : W1.heap[w0.heap.size]? = some (.cells #[.int .i64 x, .slice a N c] 26 (0, 0)) := by rw [hW1]; exact alloc_new _ _
  have hk1 : KB F0 w0 W1 := by rw [hW1]; exact (KB.refl _ _).alloc _
  have x0 : W1.cell? ⟨w0.heap.size, 0, none⟩ = some (.int .i64 x) := blk_cell hb1 0
  have HB := Lib.hid (And.intro hk1 hb1)
  have HW := Lib.hid hW1
  rw [hW1] at x0
  clear hW1 hb1 hk1
  by_cases hneg : x < 0
  · have d1 : decide (x < 0) = true := decide_eq_true hneg
    have HE := Lib.hid (HNeg.out hneg)
    clear hneg
    go_enter Tryz.func23, Tryz.ntmps23
    go_wp2_with fail
    go_ret
    exact ⟨ret_eq (by rw [HE.out]; rfl), by rw [← HW.out]; exact HB.out.1⟩
  have d1 : decide (x < 0) = false := decide_eq_false hneg
  have HNN := Lib.hid (show 0 ≤ x by omega)
  have IT := Lib.hid (fun (W : World) (hk : KB F0 w0 W) => itoa_any x HX.out W (HT.out.kb hk))
  have hcat : (⟨#[95]⟩ : ByteArray) ++ ⟨(Lib.itoa x).toArray⟩ = T 0 := by rw [H0.out]; exact bytes_app [95] _
  have hsI : (⟨(Lib.itoa x).toArray⟩ : ByteArray).size ≤ 21 := Lib.itoa_length_le x HX.out.1 HX.out.2
  generalize (⟨(Lib.itoa x).toArray⟩ : ByteArray) = I at IT hcat hsI
  have z1 : ¬ (9223372036854775807 < 1 + I.size) := by omega
  clear hneg H0 hsI
  go_enter Tryz.func23, Tryz.ntmps23
  go_wp2_with fail
  rw [← HW.out]
  refine (IT.out _ HB.out.1).mono ?_
  rintro e w2 ⟨rfl, k3⟩
  have H3 := Lib.hid k3
  clear k3 x0 IT
  go_wp2_with fail
  clear hcat z1
  go_loopw [3, 4] (fun sv kv wr => ∃ k : Nat, k ≤ N ∧ sv = .string (T k) ∧ kv = .int .i64 (k : Nat) ∧ Hid (KB F0 W1 wr ∧ ∀ i, i < k → -1 ≤ P i 0)) (fun _ kv _ => N - (intOf kv).toNat)
  case atStart => exact ⟨0, by omega, rfl, rfl, Lib.hid ⟨H3.out, fun i hi => by omega⟩⟩
  case round =>
    obtain ⟨k, hk, rfl, rfl, hst⟩ := hrel
    have hbx := hst.out.1.heap (fun x => x) HB.out.2
    have x1 : wr.cell? ⟨w0.heap.size, 1, none⟩ = some (.slice a N c) := blk_cell hbx 1
    clear hbx
    by_cases hlt : k < N
    · have d2 : decide ((k : Int) < (N : Int)) = true := decide_eq_true (by omega)
      have hkN : (k : Int) < (N : Int) := by omega
      obtain ⟨bb, off, rfl, hc0⟩ := HI.out k hlt
      have hc := (HB.out.1.trans hst.out.1).cell (p := ⟨bb, off + k, none⟩) (fun x => x) hc0
      have hB1 := HBad.out k hlt
      have hS1 := HSucc.out k hlt
      have h6 := H64.out k hlt
      have hz := HSz.out k hk
      have hNx : -1 ≤ P k 0 → ∀ i, i < k + 1 → -1 ≤ P i 0 := fun h i hi => by
        rcases Nat.lt_or_eq_of_le (Nat.lt_succ_iff.1 hi) with h' | rfl
        · exact hst.out.2 i h'
        · exact h
      generalize P k 0 = y at hc hB1 hS1 h6 hNx
      have HN1 := Lib.hid hNx
      have hTk : (T k).size ≤ 2300000 := by omega
      clear hc0 hz hNx
      by_cases hy1 : y < -1
      · have HE := Lib.hid (hB1 hy1)
        have d3 : decide (y < -1) = true := decide_eq_true hy1
        clear hy1 hB1 hS1 h6
        go_wp2_with fail
        go_ret
        exact ⟨ret_eq (by rw [HE.out]; rfl), HB.out.1.trans hst.out.1⟩
      have d3 : decide (y < -1) = false := decide_eq_false hy1
      have HN2 := Lib.hid (HN1.out (by omega))
      by_cases hy2 : y = -1
      · subst hy2
        have hTn : T k ++ ⟨#[46, 42]⟩ = T (k + 1) := hS1.symm
        have z1 : ¬ (9223372036854775807 < (T k).size + 2) := by omega
        clear hy1 hB1 hS1 h6 d3 hTk
        go_wp2_with fail
        refine ⟨⟨k + 1, by omega, rfl, by go_num, Lib.hid ⟨hst.out.1, HN2.out⟩⟩, by simp [intOf]; omega⟩
      · have d4 : (y == -1) = false := by simp; omega
        obtain ⟨U, hU⟩ : ∃ U, U = T k ++ ⟨#[46]⟩ := ⟨_, rfl⟩
        have hT1 : T (k + 1) = U ++ ⟨(Lib.itoa y).toArray⟩ := by rw [hS1, tailT, if_neg hy2, hU, ByteArray.append_assoc, bytes_app [46]]; rfl
        have hsI : (⟨(Lib.itoa y).toArray⟩ : ByteArray).size ≤ 21 := Lib.itoa_length_le y h6.1 h6.2
        have IT := Lib.hid (itoa_any y h6 wr (HT.out.kb (HB.out.1.trans hst.out.1)))
        generalize (⟨(Lib.itoa y).toArray⟩ : ByteArray) = J at hT1 hsI IT
        have hUs : U.size = (T k).size + 1 := by rw [hU, ByteArray.size_append]; rfl
        have z1 : ¬ (9223372036854775807 < (T k).size + 1) := by omega
        have z2 : ¬ (9223372036854775807 < U.size + J.size) := by omega
        have hU2 := hU.symm
        have hUJ := hT1.symm
        have HUJ := Lib.hid hUJ
        have HU2 := Lib.hid hU2
        clear hU hUs hsI hT1 hy1 hy2 hB1 hS1 h6 hTk HUJ HU2
        go_wp2_with fail
        refine IT.out.mono ?_
        rintro e w4 ⟨rfl, k4⟩
        have H4 := Lib.hid (hst.out.1.trans k4)
        clear k4 hc d3 d4
        go_wp2_with fail
        refine ⟨⟨k + 1, by omega, rfl, by go_num, Lib.hid ⟨H4.out, HN2.out⟩⟩, by simp [intOf]; omega⟩
    · obtain rfl : k = N := by omega
      have d2 : decide ((k : Int) < (k : Int)) = false := decide_eq_false (by omega)
      have HE : Hid (R = T k) := Lib.hid (HAll.out HNN.out hst.out.2)
      go_wp2_with fail
      go_ret
      exact ⟨ret_eq (by rw [HE.out]; rfl), HB.out.1.trans hst.out.1⟩
end Go.Proofs.YtpigppghcghpbaaGreatDoor

/- types.Structs. -/
import Derived.Test.YtaeppaaolkcbbaaGreatDoorMg04
import Derived.Test.YtaeppaaolkcbbaaGreatDoorMg05
namespace Go.Proofs.YtaeppaaolkcbbaaGreatDoor
open Go.RowKit

def sB1 (S : List (List Ty)) (i : Nat) : Bool := decide ((fds S i).length < 1) || (decide (8 < (fds S i).length) || (fds S i).any (badF S.length))
def sTy (i : Nat) : Ty := .mk 5 false 0 (i : Nat) []
def sB3 (S : List (List Ty)) (i : Nat) : Bool := decide (16 < wF S 34 (sTy i))
structure GoodS (S : List (List Ty)) : Prop where
 len : S.length ≤ 32
 b1 : ∀ i, i < S.length → sB1 S i = false
 b2 : ∀ i, i < S.length → endB S i = false
 b3 : ∀ i, i < S.length → sB3 S i = false
def StEnd (S : List (List Ty)) (k : Nat) (ok : Bool) : Prop :=
 (ok = true ∧ k = 0 ∧ GoodS S) ∨ (ok = false ∧ ¬ GoodS S ∧ (32 < S.length ∧ k = 32 ∨ S.length ≤ 32 ∧ k < S.length ∧
  (IsFirst S.length (sB1 S) k ∨ (∀ j, j < S.length → sB1 S j = false) ∧ (IsFirst S.length (endB S) k ∨ (∀ j, j < S.length → endB S j = false) ∧ IsFirst S.length (sB3 S) k))))
theorem StEnd.good {S : List (List Ty)} {k : Nat} {ok : Bool} (h : StEnd S k ok) : ok = true ↔ GoodS S := by
 rcases h with ⟨rfl, -, h⟩ | ⟨rfl, h, -⟩
 ·exact ⟨fun _ => h, fun _ => rfl⟩
 ·exact ⟨fun h => (by cases h), fun hg => (h hg).elim⟩
theorem IsFirst.full {n : Nat} {b : Nat → Bool} {k : Nat} (h : IsFirst n b k) (hk : ¬ k < n) : ∀ j, j < n → b j = false := fun j hj => h.2.1 j (by have := h.1; omega)
theorem badF_ok {n : Nat} {f : Ty} (h : badF n f = false) : mayB n false 48 f = true := by unfold badF at h; simpa using h
theorem mayB_in {n d : Nat} {r : Bool} {f : Ty} (h : mayB n r (d + 1) f = true) : f.k = 5 → 0 ≤ f.s ∧ f.s < (n : Int) := by
 intro hk
 rw [mayB_succ] at h
 unfold mayV at h
 simp [hk] at h
 omega
theorem sB1_fds {S : List (List Ty)} {i : Nat} (h : sB1 S i = false) : 1 ≤ (fds S i).length ∧ (fds S i).length ≤ 8 ∧ ∀ f ∈ fds S i, mayB S.length false 48 f = true := by
 unfold sB1 at h
 simp only [Bool.or_eq_false_iff, decide_eq_false_iff_not] at h
 refine ⟨by omega, by omega, fun f hf => badF_ok ?_⟩
 have := (List.any_eq_false.1 h.2.2) f hf
 simpa using this
theorem fds_out {S : List (List Ty)} {i : Nat} (h : ¬ i < S.length) : fds S i = [] := by unfold fds; rw [List.getD_eq_getElem?_getD, List.getElem?_eq_none (by omega)]; rfl
theorem inR_of {S : List (List Ty)} (h : ∀ i, i < S.length → sB1 S i = false) : InR S := by
 intro i f hf hk
 by_cases hi : i < S.length
 ·exact mayB_in ((sB1_fds (h i hi)).2.2 f hf) hk
 ·rw [fds_out hi] at hf; cases hf
theorem len8_of {S : List (List Ty)} (h : ∀ i, i < S.length → sB1 S i = false) (i : Nat) : (fds S i).length ≤ 100 := by
 by_cases hi : i < S.length
 ·have := (sB1_fds (h i hi)).2.1; omega
 ·rw [fds_out hi]; simp
set_option maxRecDepth 100000 in
set_option maxHeartbeats 8000000 in
theorem tyFirst1_any (n : Nat) (hn : n ≤ 1000000) (b1 b2 : Nat) (b : Nat → Bool) (w : World) (H : ∀ k, k < n → ∀ V, KB F0 w V → Calls Tryz.prog 65 #[.int .i64 (k : Nat), .pointer (some ⟨b1, 0, none⟩), .pointer (some ⟨b2, 0, none⟩)] V fun e w' => e = .returned (.bool (b k)) ∧ KB F0 V w') :
  Calls Tryz.prog 72 #[.int .i64 (n : Nat), .func (.func 65) #[] #[.pointer (some ⟨b1, 0, none⟩), .pointer (some ⟨b2, 0, none⟩)]] w fun e w' => ∃ k : Nat, e = .returned (.int .i64 (k : Nat)) ∧ IsFirst n b k ∧ KB F0 w w' := by
 obtain ⟨w0, rfl⟩ : ∃ w0, w0 = w := ⟨_, rfl⟩
 have HH := Lib.hid H
 clear H
 go_enter Tryz.func72, Tryz.ntmps72
 go_wp2_with fail
 go_loopw [7] (fun kv wr => ∃ k : Nat, k ≤ n ∧ kv = .int .i64 (k : Nat) ∧ Hid (KB F0 w0 wr ∧ ∀ j, j < k → b j = false)) (fun kv _ => n - (intOf kv).toNat)
 case atStart => exact ⟨0, by omega, rfl, Lib.hid ⟨KB.refl _ _, fun j hj => by omega⟩⟩
 case round =>
  obtain ⟨k, hk, rfl, hst⟩ := hrel
  by_cases hlt : k < n
  ·have hkI : (k : Int) < (n : Int) := by omega
   have dk : decide ((k : Int) < (n : Int)) = true := decide_eq_true hkI
   obtain ⟨q, hq⟩ : ∃ q, q = b k := ⟨_, rfl⟩
   have CL := HH.out k hlt wr hst.out.1
   rw [← hq] at CL
   have HQ := Lib.hid hq
   have CL2 := Lib.hid CL
   clear CL hq
   go_wp2_with fail
   refine CL2.out.mono ?_
   rintro e w1 ⟨rfl, k1⟩
   have K1 := Lib.hid (hst.out.1.trans k1)
   clear k1
   cases q with
   | true =>
    have HA : Hid (IsFirst n b k) := Lib.hid ⟨by omega, hst.out.2, fun _ => HQ.out.symm⟩
    go_wp2_with fail
    go_ret
    exact ⟨_, rfl, HA.out, K1.out⟩
   | false =>
    have HN : Hid (KB F0 w0 w1 ∧ ∀ j, j < k + 1 → b j = false) := Lib.hid ⟨K1.out, fun j hj => by
     rcases Nat.lt_or_eq_of_le (Nat.lt_succ_iff.1 hj) with h1 | rfl
     ·exact hst.out.2 j h1
     ·exact HQ.out.symm⟩
    go_wp2_with fail
    exact ⟨⟨k + 1, by omega, by go_num, HN⟩, by simp [intOf]; omega⟩
  ·obtain rfl : k = n := by omega
   have dk : decide ((k : Int) < (k : Int)) = false := decide_eq_false (by omega)
   have HA : Hid (IsFirst k b k) := Lib.hid ⟨Nat.le_refl _, hst.out.2, fun h => absurd h (Nat.lt_irrefl _)⟩
   have HK := Lib.hid hst.out.1
   clear hst
   go_wp2_with fail
   go_ret
   exact ⟨_, rfl, HA.out, HK.out⟩
set_option maxRecDepth 100000 in
set_option maxHeartbeats 8000000 in
theorem tyFirst2_any (n : Nat) (hn : n ≤ 1000000) (b1 : Nat) (b : Nat → Bool) (w : World) (H : ∀ k, k < n → ∀ V, KB F0 w V → Calls Tryz.prog 69 #[.int .i64 (k : Nat), .pointer (some ⟨b1, 0, none⟩)] V fun e w' => e = .returned (.bool (b k)) ∧ KB F0 V w') :
  Calls Tryz.prog 72 #[.int .i64 (n : Nat), .func (.func 69) #[] #[.pointer (some ⟨b1, 0, none⟩)]] w fun e w' => ∃ k : Nat, e = .returned (.int .i64 (k : Nat)) ∧ IsFirst n b k ∧ KB F0 w w' := by
 obtain ⟨w0, rfl⟩ : ∃ w0, w0 = w := ⟨_, rfl⟩
 have HH := Lib.hid H
 clear H
 go_enter Tryz.func72, Tryz.ntmps72
 go_wp2_with fail
 go_loopw [7] (fun kv wr => ∃ k : Nat, k ≤ n ∧ kv = .int .i64 (k : Nat) ∧ Hid (KB F0 w0 wr ∧ ∀ j, j < k → b j = false)) (fun kv _ => n - (intOf kv).toNat)
 case atStart => exact ⟨0, by omega, rfl, Lib.hid ⟨KB.refl _ _, fun j hj => by omega⟩⟩
 case round =>
  obtain ⟨k, hk, rfl, hst⟩ := hrel
  by_cases hlt : k < n
  ·have hkI : (k : Int) < (n : Int) := by omega
   have dk : decide ((k : Int) < (n : Int)) = true := decide_eq_true hkI
   obtain ⟨q, hq⟩ : ∃ q, q = b k := ⟨_, rfl⟩
   have CL := HH.out k hlt wr hst.out.1
   rw [← hq] at CL
   have HQ := Lib.hid hq
   have CL2 := Lib.hid CL
   clear CL hq
   go_wp2_with fail
   refine CL2.out.mono ?_
   rintro e w1 ⟨rfl, k1⟩
   have K1 := Lib.hid (hst.out.1.trans k1)
   clear k1
   cases q with
   | true =>
    have HA : Hid (IsFirst n b k) := Lib.hid ⟨by omega, hst.out.2, fun _ => HQ.out.symm⟩
    go_wp2_with fail
    go_ret
    exact ⟨_, rfl, HA.out, K1.out⟩
   | false =>
    have HN : Hid (KB F0 w0 w1 ∧ ∀ j, j < k + 1 → b j = false) := Lib.hid ⟨K1.out, fun j hj => by
     rcases Nat.lt_or_eq_of_le (Nat.lt_succ_iff.1 hj) with h1 | rfl
     ·exact hst.out.2 j h1
     ·exact HQ.out.symm⟩
    go_wp2_with fail
    exact ⟨⟨k + 1, by omega, by go_num, HN⟩, by simp [intOf]; omega⟩
  ·obtain rfl : k = n := by omega
   have dk : decide ((k : Int) < (k : Int)) = false := decide_eq_false (by omega)
   have HA : Hid (IsFirst k b k) := Lib.hid ⟨Nat.le_refl _, hst.out.2, fun h => absurd h (Nat.lt_irrefl _)⟩
   have HK := Lib.hid hst.out.1
   clear hst
   go_wp2_with fail
   go_ret
   exact ⟨_, rfl, HA.out, HK.out⟩
set_option maxRecDepth 100000 in
set_option maxHeartbeats 8000000 in
theorem tyFirst3_any (n : Nat) (hn : n ≤ 1000000) (b1 : Nat) (b : Nat → Bool) (w : World) (H : ∀ k, k < n → ∀ V, KB F0 w V → Calls Tryz.prog 71 #[.int .i64 (k : Nat), .pointer (some ⟨b1, 0, none⟩)] V fun e w' => e = .returned (.bool (b k)) ∧ KB F0 V w') :
  Calls Tryz.prog 72 #[.int .i64 (n : Nat), .func (.func 71) #[] #[.pointer (some ⟨b1, 0, none⟩)]] w fun e w' => ∃ k : Nat, e = .returned (.int .i64 (k : Nat)) ∧ IsFirst n b k ∧ KB F0 w w' := by
 obtain ⟨w0, rfl⟩ : ∃ w0, w0 = w := ⟨_, rfl⟩
 have HH := Lib.hid H
 clear H
 go_enter Tryz.func72, Tryz.ntmps72
 go_wp2_with fail
 go_loopw [7] (fun kv wr => ∃ k : Nat, k ≤ n ∧ kv = .int .i64 (k : Nat) ∧ Hid (KB F0 w0 wr ∧ ∀ j, j < k → b j = false)) (fun kv _ => n - (intOf kv).toNat)
 case atStart => exact ⟨0, by omega, rfl, Lib.hid ⟨KB.refl _ _, fun j hj => by omega⟩⟩
 case round =>
  obtain ⟨k, hk, rfl, hst⟩ := hrel
  by_cases hlt : k < n
  ·have hkI : (k : Int) < (n : Int) := by omega
   have dk : decide ((k : Int) < (n : Int)) = true := decide_eq_true hkI
   obtain ⟨q, hq⟩ : ∃ q, q = b k := ⟨_, rfl⟩
   have CL := HH.out k hlt wr hst.out.1
   rw [← hq] at CL
   have HQ := Lib.hid hq
   have CL2 := Lib.hid CL
   clear CL hq
   go_wp2_with fail
   refine CL2.out.mono ?_
   rintro e w1 ⟨rfl, k1⟩
   have K1 := Lib.hid (hst.out.1.trans k1)
   clear k1
   cases q with
   | true =>
    have HA : Hid (IsFirst n b k) := Lib.hid ⟨by omega, hst.out.2, fun _ => HQ.out.symm⟩
    go_wp2_with fail
    go_ret
    exact ⟨_, rfl, HA.out, K1.out⟩
   | false =>
    have HN : Hid (KB F0 w0 w1 ∧ ∀ j, j < k + 1 → b j = false) := Lib.hid ⟨K1.out, fun j hj => by
     rcases Nat.lt_or_eq_of_le (Nat.lt_succ_iff.1 hj) with h1 | rfl
     ·exact hst.out.2 j h1
     ·exact HQ.out.symm⟩
    go_wp2_with fail
    exact ⟨⟨k + 1, by omega, by go_num, HN⟩, by simp [intOf]; omega⟩
  ·obtain rfl : k = n := by omega
   have dk : decide ((k : Int) < (k : Int)) = false := decide_eq_false (by omega)
   have HA : Hid (IsFirst k b k) := Lib.hid ⟨Nat.le_refl _, hst.out.2, fun h => absurd h (Nat.lt_irrefl _)⟩
   have HK := Lib.hid hst.out.1
   clear hst
   go_wp2_with fail
   go_ret
   exact ⟨_, rfl, HA.out, HK.out⟩
section
variable (S : List (List Ty)) (a : Option Addr) (c : Nat) (b1 b2 : Nat) (w : World)
set_option maxRecDepth 100000 in
set_option maxHeartbeats 8000000 in
theorem tyS1_any (hl : ∀ i, (fds S i).length ≤ 1000000) (h : StsAt 49 w a S) (hc : S.length ≤ c) (h1 : w.heap[b1]? = some (.cells #[.slice a S.length c] 22 (0, 0))) (h2 : w.heap[b2]? = some (.cells #[.int .i64 (S.length : Nat)] 3 (0, 0))) (k : Nat) (hk : k < S.length) :
  Calls Tryz.prog 65 #[.int .i64 (k : Nat), .pointer (some ⟨b1, 0, none⟩), .pointer (some ⟨b2, 0, none⟩)] w fun e w' => e = .returned (.bool (sB1 S k)) ∧ KB F0 w w' := by
 obtain ⟨w0, rfl⟩ : ∃ w0, w0 = w := ⟨_, rfl⟩
 obtain ⟨b, o, nm, fa, fc, rfl, -, hsl, hsc, hfd⟩ := h k hk
 have c1 : w0.cell? ⟨b1, 0, none⟩ = some (.slice (some ⟨b, o, none⟩) S.length c) := blk_cell h1 0
 have CL := ctFds_any S.length b2 (fds S k) (hl k) fa fc w0 h2 hfd
 have hll := hl k
 have hB : sB1 S k = (decide ((fds S k).length < 1) || (decide (8 < (fds S k).length) || (fds S k).any (badF S.length))) := rfl
 rw [hB]
 rw [show S.getD k [] = fds S k from rfl] at hsl hsc
 obtain ⟨L, hL⟩ : ∃ L, L = (fds S k).length := ⟨_, rfl⟩
 rw [← hL] at hsl hsc CL hll ⊢
 generalize (fds S k).any (badF S.length) = q at CL ⊢
 have hkI : (k : Int) < (S.length : Int) := by omega
 generalize S.length = n at *
 have CL2 := Lib.hid CL
 clear CL hL hB h h1 h2 hl hfd
 go_enter Tryz.func65, Tryz.ntmps65
 by_cases hL1 : L < 1
 ·have d1 : decide ((L : Int) < 1) = true := decide_eq_true (by omega)
  have d1n : decide (L < 1) = true := decide_eq_true hL1
  obtain rfl : L = 0 := by omega
  go_wp2_with fail
  go_ret
  exact ⟨ret_eq (by simp), KB.refl _ _⟩
 ·have d1 : decide ((L : Int) < 1) = false := decide_eq_false (by omega)
  have d1n : decide (L < 1) = false := decide_eq_false hL1
  have e1 : ¬ ((L : Int) < 1) := by omega
  by_cases hL8 : 8 < L
  ·have d8 : decide ((8 : Int) < (L : Int)) = true := decide_eq_true (by omega)
   have d8n : decide (8 < L) = true := decide_eq_true hL8
   have e8 : (8 : Int) < (L : Int) := by omega
   go_wp2_with fail
   go_ret
   exact ⟨ret_eq (by simp [d8n]), KB.refl _ _⟩
  ·have d8 : decide ((8 : Int) < (L : Int)) = false := decide_eq_false (by omega)
   have d8n : decide (8 < L) = false := decide_eq_false hL8
   have e8 : ¬ ((8 : Int) < (L : Int)) := by omega
   go_wp2_with fail
   refine CL2.out.mono ?_
   rintro e w1 ⟨rfl, k1⟩
   have K1 := Lib.hid k1
   clear k1
   go_wp2_with fail
   go_ret
   exact ⟨ret_eq (by rw [d1n, d8n]; simp), K1.out⟩
set_option maxRecDepth 100000 in
set_option maxHeartbeats 8000000 in
theorem tyS2_any (hg : ∀ i, i < S.length → sB1 S i = false) (h32 : S.length ≤ 32) (h : StsAt 49 w a S) (hc : S.length ≤ c) (h1 : w.heap[b1]? = some (.cells #[.slice a S.length c] 22 (0, 0))) (k : Nat) (hk : k < S.length) :
  Calls Tryz.prog 69 #[.int .i64 (k : Nat), .pointer (some ⟨b1, 0, none⟩)] w fun e w' => e = .returned (.bool (endB S k)) ∧ KB F0 w w' := by
 obtain ⟨w0, rfl⟩ : ∃ w0, w0 = w := ⟨_, rfl⟩
 have c1 : w0.cell? ⟨b1, 0, none⟩ = some (.slice a S.length c) := blk_cell h1 0
 have CL := Lib.hid (tyEndless_any S (inR_of hg) h32 (len8_of hg) k 49 hk a c hc w0 h)
 generalize endB S k = q at CL ⊢
 generalize S.length = n at *
 clear h h1 hg
 go_enter Tryz.func69, Tryz.ntmps69
 go_wp2_with fail
 refine CL.out.mono ?_
 rintro e w1 ⟨rfl, k1⟩
 have K1 := Lib.hid k1
 clear k1
 go_wp2_with fail
 go_ret
 exact ⟨rfl, K1.out⟩
set_option maxRecDepth 100000 in
set_option maxHeartbeats 8000000 in
theorem tyS3_any (hg : ∀ i, i < S.length → sB1 S i = false) (he : ∀ i, i < S.length → endB S i = false) (h32 : S.length ≤ 32) (h : StsAt 49 w a S) (h1 : w.heap[b1]? = some (.cells #[.slice a S.length c] 22 (0, 0))) (k : Nat) (hk : k < S.length) :
  Calls Tryz.prog 71 #[.int .i64 (k : Nat), .pointer (some ⟨b1, 0, none⟩)] w fun e w' => e = .returned (.bool (sB3 S k)) ∧ KB F0 w w' := by
 obtain ⟨w0, rfl⟩ : ∃ w0, w0 = w := ⟨_, rfl⟩
 have c1 : w0.cell? ⟨b1, 0, none⟩ = some (.slice a S.length c) := blk_cell h1 0
 have CL := tyWords_any S (inR_of hg) h32 (len8_of hg) 49 a c 34 (sTy k) none 0 w0 ((finD_all (inR_of hg) he (sTy k)).le (by omega)) (fun _ => ⟨by show (0 : Int) ≤ (k : Int); omega, by show (k : Int) < _; omega⟩) h
 unfold tyV sTy at CL
 simp only [Ty.k, Ty.m, Ty.r, Ty.s, Ty.of, List.length_nil] at CL
 have hB : sB3 S k = decide (16 < min (wF S 34 (sTy k)) 17) := by unfold sB3; rw [Bool.eq_iff_iff]; simp only [decide_eq_true_eq]; omega
 rw [hB]
 unfold sTy
 have hx : min (wF S 34 (.mk 5 false 0 (k : Nat) [])) 17 ≤ 17 := by omega
 generalize min (wF S 34 (.mk 5 false 0 (k : Nat) [])) 17 = x at CL hx ⊢
 have CL2 := Lib.hid CL
 generalize S.length = n at *
 clear h h1 hg he CL hB
 go_enter Tryz.func71, Tryz.ntmps71
 go_wp2_with fail
 refine CL2.out.mono ?_
 rintro e w1 ⟨rfl, k1⟩
 have K1 := Lib.hid k1
 clear k1
 go_wp2_with fail
 go_ret
 exact ⟨ret_eq (by first | rfl | (congr 1; rw [Bool.eq_iff_iff]; simp; done) | (congr 1; rw [Bool.eq_iff_iff]; simp; omega)), K1.out⟩
end
theorem stEnd_1 {S : List (List Ty)} {k : Nat} (h32 : S.length ≤ 32) (h : IsFirst S.length (sB1 S) k) (hk : k < S.length) : StEnd S k false :=
 Or.inr ⟨rfl, fun hg => (by have := h.2.2 hk; rw [hg.b1 k hk] at this; cases this), Or.inr ⟨h32, hk, Or.inl h⟩⟩
theorem stEnd_2 {S : List (List Ty)} {k : Nat} (h32 : S.length ≤ 32) (h1 : ∀ j, j < S.length → sB1 S j = false) (h : IsFirst S.length (endB S) k) (hk : k < S.length) : StEnd S k false :=
 Or.inr ⟨rfl, fun hg => (by have := h.2.2 hk; rw [hg.b2 k hk] at this; cases this), Or.inr ⟨h32, hk, Or.inr ⟨h1, Or.inl h⟩⟩⟩
theorem stEnd_3 {S : List (List Ty)} {k : Nat} (h32 : S.length ≤ 32) (h1 : ∀ j, j < S.length → sB1 S j = false) (h2 : ∀ j, j < S.length → endB S j = false) (h : IsFirst S.length (sB3 S) k) (hk : k < S.length) : StEnd S k false :=
 Or.inr ⟨rfl, fun hg => (by have := h.2.2 hk; rw [hg.b3 k hk] at this; cases this), Or.inr ⟨h32, hk, Or.inr ⟨h1, Or.inr ⟨h2, h⟩⟩⟩⟩
def stErr (ok : Bool) : Int := if ok = true then 0 else 2
set_option maxRecDepth 100000 in
set_option maxHeartbeats 16000000 in
theorem tyStructs_any (S : List (List Ty)) (hn : S.length ≤ 1000000) (hl : ∀ i, (fds S i).length ≤ 1000000) (a : Option Addr) (c : Nat) (hc : S.length ≤ c) (w : World) (h : StsAt 49 w a S) :
  Calls Tryz.prog 35 #[.slice a S.length c] w fun e w' => ∃ (k : Nat) (ok : Bool), e = .returned (.tuple #[.int .i64 (k : Nat), .int .i64 (stErr ok)]) ∧ StEnd S k ok ∧ KB F0 w w' := by
 obtain ⟨w0, rfl⟩ : ∃ w0, w0 = w := ⟨_, rfl⟩
 obtain ⟨n, hnn⟩ : ∃ n, n = S.length := ⟨_, rfl⟩
 by_cases h32 : S.length ≤ 32
 ·obtain ⟨W, hW⟩ : ∃ W, W = (((w0.alloc (Obj.cells #[Value.slice a n c] 22)).alloc (Obj.cells #[Value.int IntKind.i64 (n : Nat)] 3)).alloc
   (Obj.cells #[Value.func (Fn.func 65) #[] #[Value.pointer (some { block := w0.heap.size, off := 0 }), Value.pointer (some { block := w0.heap.size + 1, off := 0 })],
     Value.func (Fn.func 69) #[] #[Value.pointer (some { block := w0.heap.size, off := 0 })],
     Value.func (Fn.func 71) #[] #[Value.pointer (some { block := w0.heap.size, off := 0 })]] 134)) := ⟨_, rfl⟩
  have HK : Hid (KB F0 w0 W) := Lib.hid (by rw [hW]; exact (((KB.refl _ _).alloc _).alloc _).alloc _)
  have hs0 : (w0.alloc (Obj.cells #[Value.slice a n c] 22)).heap.size = w0.heap.size + 1 := by simp
  have hs1 : ((w0.alloc (Obj.cells #[Value.slice a n c] 22)).alloc (Obj.cells #[Value.int IntKind.i64 (n : Nat)] 3)).heap.size = w0.heap.size + 1 + 1 := by simp
  have hb : W.heap[w0.heap.size + 1 + 1]? = some (.cells #[Value.func (Fn.func 65) #[] #[Value.pointer (some { block := w0.heap.size, off := 0 }), Value.pointer (some { block := w0.heap.size + 1, off := 0 })],
     Value.func (Fn.func 69) #[] #[Value.pointer (some { block := w0.heap.size, off := 0 })],
     Value.func (Fn.func 71) #[] #[Value.pointer (some { block := w0.heap.size, off := 0 })]] 134 (0, 0)) := by rw [hW, ← hs1]; exact alloc_new _ _
  have hi : W.heap[w0.heap.size + 1]? = some (.cells #[.int .i64 (n : Nat)] 3 (0, 0)) := by rw [hW, ← hs0]; exact ((KB.refl F0 _).alloc _).heap (fun x => x) (alloc_new _ _)
  have hs : W.heap[w0.heap.size]? = some (.cells #[.slice a n c] 22 (0, 0)) := by rw [hW]; exact (((KB.refl F0 _).alloc _).alloc _).heap (fun x => x) (alloc_new _ _)
  have HF1 := Lib.hid (fun (V : World) (hk : KB F0 W V) => tyFirst1_any S.length hn w0.heap.size (w0.heap.size + 1) (sB1 S) V (fun k hkn V' hk' => tyS1_any S a c w0.heap.size (w0.heap.size + 1) V' hl (h.kbF (HK.out.trans (hk.trans hk'))) hc ((hk.trans hk').heap (fun x => x) (hnn ▸ hs)) ((hk.trans hk').heap (fun x => x) (hnn ▸ hi)) k hkn))
  have HF2 := Lib.hid (fun (hg : ∀ i, i < S.length → sB1 S i = false) (V : World) (hk : KB F0 W V) => tyFirst2_any S.length hn w0.heap.size (endB S) V (fun k hkn V' hk' => tyS2_any S a c w0.heap.size V' hg h32 (h.kbF (HK.out.trans (hk.trans hk'))) hc ((hk.trans hk').heap (fun x => x) (hnn ▸ hs)) k hkn))
  have HF3 := Lib.hid (fun (hg : ∀ i, i < S.length → sB1 S i = false) (he : ∀ i, i < S.length → endB S i = false) (V : World) (hk : KB F0 W V) => tyFirst3_any S.length hn w0.heap.size (sB3 S) V (fun k hkn V' hk' => tyS3_any S a c w0.heap.size V' hg he h32 (h.kbF (HK.out.trans (hk.trans hk'))) ((hk.trans hk').heap (fun x => x) (hnn ▸ hs)) k hkn))
  rw [← hnn] at HF1 HF2 HF3
  have HN := Lib.hid (And.intro hnn h32)
  have c0 := blk_cell hb 0
  have c1 := blk_cell hb 1
  have c2 := blk_cell hb 2
  have n0 : W.cell? ⟨w0.heap.size + 1, 0, none⟩ = some (.int .i64 (n : Nat)) := blk_cell hi 0
  have hn32 : n ≤ 32 := by omega
  have g1 : ¬ ((32 : Int) < (n : Int)) := by omega
  have g2 : decide ((32 : Int) < (n : Int)) = false := decide_eq_false g1
  have g3 : decide (32 < n) = false := decide_eq_false (by omega)
  have HW := Lib.hid hW
  have HC := Lib.hid (And.intro c0 (And.intro c1 (And.intro c2 n0)))
  rw [← hnn]
  clear hb hs1 hs0 hi hs hW h hl hnn h32 hn hc
  go_enter Tryz.func35, Tryz.ntmps35
  go_wp2_with fail
  rw [← HW.out]
  clear c0 c1 c2 n0
  go_loopw [19] (fun kv wr => ∃ k : Nat, k ≤ 3 ∧ kv = .int .i64 (k : Nat) ∧ Hid (KB F0 W wr ∧ (1 ≤ k → ∀ j, j < S.length → sB1 S j = false) ∧ (2 ≤ k → ∀ j, j < S.length → endB S j = false) ∧ (3 ≤ k → ∀ j, j < S.length → sB3 S j = false))) (fun kv _ => 3 - (intOf kv).toNat)
  case atStart => exact ⟨0, by omega, rfl, Lib.hid ⟨KB.refl _ _, fun h => by omega, fun h => by omega, fun h => by omega⟩⟩
  case round =>
   obtain ⟨q, hq, rfl, hst⟩ := hrel
   have c0 := hst.out.1.cell (p := ⟨w0.heap.size + 1 + 1, 0, none⟩) (fun x => x) HC.out.1
   have c1 := hst.out.1.cell (p := ⟨w0.heap.size + 1 + 1, 1, none⟩) (fun x => x) HC.out.2.1
   have c2 := hst.out.1.cell (p := ⟨w0.heap.size + 1 + 1, 2, none⟩) (fun x => x) HC.out.2.2.1
   have n0 := hst.out.1.cell (p := ⟨w0.heap.size + 1, 0, none⟩) (fun x => x) HC.out.2.2.2
   obtain rfl | rfl | rfl | rfl : q = 0 ∨ q = 1 ∨ q = 2 ∨ q = 3 := by omega
   ·go_wp2_with fail
    refine (HF1.out wr hst.out.1).mono ?_
    rintro e w1 ⟨k, rfl, hfst, k1⟩
    have K1 := Lib.hid k1
    have m0 := k1.cell (p := ⟨w0.heap.size + 1, 0, none⟩) (fun x => x) n0
    have HFST := Lib.hid hfst
    clear k1 c0 c1 c2 n0 hfst
    by_cases hkn : k < n
    ·have HE : Hid (StEnd S k false) := Lib.hid (by
      have hf := And.intro HFST.out (HN.out.1 ▸ hkn)
      rw [HN.out.1] at hf
      exact stEnd_1 HN.out.2 hf.1 hf.2)
     have hkI : (k : Int) < (n : Int) := by omega
     have dk : decide ((k : Int) < (n : Int)) = true := decide_eq_true hkI
     go_wp2_with fail
     go_ret2
     exact ⟨k, false, rfl, HE.out, HK.out.trans (hst.out.1.trans K1.out)⟩
    ·have hfull : ∀ j, j < S.length → sB1 S j = false := by
      have hf := HFST.out
      rw [HN.out.1] at hf
      exact hf.full (by rw [← HN.out.1]; exact hkn)
     have HR : Hid (KB F0 W w1 ∧ (1 ≤ 1 → ∀ j, j < S.length → sB1 S j = false) ∧ (2 ≤ 1 → ∀ j, j < S.length → endB S j = false) ∧ (3 ≤ 1 → ∀ j, j < S.length → sB3 S j = false)) := Lib.hid ⟨hst.out.1.trans K1.out, fun _ => hfull, fun h => by omega, fun h => by omega⟩
     have hkI : ¬ ((k : Int) < (n : Int)) := by omega
     have dk : decide ((k : Int) < (n : Int)) = false := decide_eq_false hkI
     have dkn : decide (k < n) = false := decide_eq_false hkn
     clear hfull
     go_wp2_with fail
     exact ⟨⟨1, by omega, rfl, HR⟩, by simp [intOf]⟩
   ·go_wp2_with fail
    refine (HF2.out (fun i hi => hst.out.2.1 (by omega) i (HN.out.1 ▸ hi)) wr hst.out.1).mono ?_
    rintro e w1 ⟨k, rfl, hfst, k1⟩
    have K1 := Lib.hid k1
    have m0 := k1.cell (p := ⟨w0.heap.size + 1, 0, none⟩) (fun x => x) n0
    have HFST := Lib.hid hfst
    clear k1 c0 c1 c2 n0 hfst
    by_cases hkn : k < n
    ·have HE : Hid (StEnd S k false) := Lib.hid (by
      have hf := And.intro HFST.out (HN.out.1 ▸ hkn)
      rw [HN.out.1] at hf
      exact stEnd_2 HN.out.2 (hst.out.2.1 (by omega)) hf.1 hf.2)
     have hkI : (k : Int) < (n : Int) := by omega
     have dk : decide ((k : Int) < (n : Int)) = true := decide_eq_true hkI
     go_wp2_with fail
     go_ret2
     exact ⟨k, false, rfl, HE.out, HK.out.trans (hst.out.1.trans K1.out)⟩
    ·have hfull : ∀ j, j < S.length → endB S j = false := by
      have hf := HFST.out
      rw [HN.out.1] at hf
      exact hf.full (by rw [← HN.out.1]; exact hkn)
     have HR : Hid (KB F0 W w1 ∧ (1 ≤ 2 → ∀ j, j < S.length → sB1 S j = false) ∧ (2 ≤ 2 → ∀ j, j < S.length → endB S j = false) ∧ (3 ≤ 2 → ∀ j, j < S.length → sB3 S j = false)) := Lib.hid ⟨hst.out.1.trans K1.out, fun _ => hst.out.2.1 (by omega), fun _ => hfull, fun h => by omega⟩
     have hkI : ¬ ((k : Int) < (n : Int)) := by omega
     have dk : decide ((k : Int) < (n : Int)) = false := decide_eq_false hkI
     have dkn : decide (k < n) = false := decide_eq_false hkn
     clear hfull
     go_wp2_with fail
     exact ⟨⟨2, by omega, rfl, HR⟩, by simp [intOf]⟩
   ·go_wp2_with fail
    refine (HF3.out (fun i hi => hst.out.2.1 (by omega) i (HN.out.1 ▸ hi)) (fun i hi => hst.out.2.2.1 (by omega) i (HN.out.1 ▸ hi)) wr hst.out.1).mono ?_
    rintro e w1 ⟨k, rfl, hfst, k1⟩
    have K1 := Lib.hid k1
    have m0 := k1.cell (p := ⟨w0.heap.size + 1, 0, none⟩) (fun x => x) n0
    have HFST := Lib.hid hfst
    clear k1 c0 c1 c2 n0 hfst
    by_cases hkn : k < n
    ·have HE : Hid (StEnd S k false) := Lib.hid (by
      have hf := And.intro HFST.out (HN.out.1 ▸ hkn)
      rw [HN.out.1] at hf
      exact stEnd_3 HN.out.2 (hst.out.2.1 (by omega)) (hst.out.2.2.1 (by omega)) hf.1 hf.2)
     have hkI : (k : Int) < (n : Int) := by omega
     have dk : decide ((k : Int) < (n : Int)) = true := decide_eq_true hkI
     go_wp2_with fail
     go_ret2
     exact ⟨k, false, rfl, HE.out, HK.out.trans (hst.out.1.trans K1.out)⟩
    ·have hfull : ∀ j, j < S.length → sB3 S j = false := by
      have hf := HFST.out
      rw [HN.out.1] at hf
      exact hf.full (by rw [← HN.out.1]; exact hkn)
     have HR : Hid (KB F0 W w1 ∧ (1 ≤ 3 → ∀ j, j < S.length → sB1 S j = false) ∧ (2 ≤ 3 → ∀ j, j < S.length → endB S j = false) ∧ (3 ≤ 3 → ∀ j, j < S.length → sB3 S j = false)) := Lib.hid ⟨hst.out.1.trans K1.out, fun _ => hst.out.2.1 (by omega), fun _ => hst.out.2.2.1 (by omega), fun _ => hfull⟩
     have hkI : ¬ ((k : Int) < (n : Int)) := by omega
     have dk : decide ((k : Int) < (n : Int)) = false := decide_eq_false hkI
     have dkn : decide (k < n) = false := decide_eq_false hkn
     clear hfull
     go_wp2_with fail
     exact ⟨⟨3, by omega, rfl, HR⟩, by simp [intOf]⟩
   ·go_wp2_with fail
    go_ret2
    exact ⟨0, true, rfl, Or.inl ⟨rfl, rfl, HN.out.2, hst.out.2.1 (by omega), hst.out.2.2.1 (by omega), hst.out.2.2.2 (by omega)⟩, HK.out.trans hst.out.1⟩
 ·have hng : ¬ GoodS S := fun hg => h32 hg.len
  have HE : Hid (StEnd S 32 false) := Lib.hid (Or.inr ⟨rfl, hng, Or.inl ⟨by omega, rfl⟩⟩)
  have g1 : (32 : Int) < (n : Int) := by omega
  have g2 : decide ((32 : Int) < (n : Int)) = true := decide_eq_true g1
  have g3 : decide (32 < n) = true := decide_eq_true (by omega)
  rw [← hnn]
  have HK : Hid (KB F0 w0 ((w0.alloc (Obj.cells #[Value.slice a n c] 22)).alloc (Obj.cells #[Value.int IntKind.i64 (n : Nat)] 3))) := Lib.hid (((KB.refl _ _).alloc _).alloc _)
  clear h hl hnn h32 hn hc hng
  go_enter Tryz.func35, Tryz.ntmps35
  go_wp2_with fail
  go_ret2
  exact ⟨32, false, rfl, HE.out, HK.out⟩
end Go.Proofs.YtaeppaaolkcbbaaGreatDoor

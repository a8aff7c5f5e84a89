/- The walks of math/bits.OnesCount32 (below 4096) and arena.count. -/
import Derived.Test.YtnfoabccbkedgaaHeapA
namespace Go.Proofs.Ytnfoabccbkedgaa
open Go.RowKit

theorem bits_and_u32 (a b : Nat) (ha : a < 4294967296) (hb : b < 4294967296) : bits .and .u32 a b = ((a &&& b : Nat) : Int) := by
  exact (bits_nat .u32 32 (by decide) (fun n h0 h1 => by simp [IntKind.wrap, IntKind.bits, IntKind.signed]; omega) a b (by simpa using ha) (by simpa using hb)).1

def pop8 : ByteArray := ⟨#[0, 1, 1, 2, 1, 2, 2, 3, 1, 2, 2, 3, 2, 3, 3, 4, 1, 2, 2, 3, 2, 3, 3, 4, 2, 3, 3, 4, 3, 4, 4, 5, 1, 2, 2, 3, 2, 3, 3, 4, 2, 3, 3, 4, 3, 4, 4, 5, 2, 3, 3, 4, 3, 4, 4, 5, 3, 4, 4, 5, 4, 5, 5, 6, 1, 2, 2, 3, 2, 3, 3, 4, 2, 3, 3, 4, 3, 4, 4, 5, 2, 3, 3, 4, 3, 4, 4, 5, 3, 4, 4, 5, 4, 5, 5, 6, 2, 3, 3, 4, 3, 4, 4, 5, 3, 4, 4, 5, 4, 5, 5, 6, 3, 4, 4, 5, 4, 5, 5, 6, 4, 5, 5, 6, 5, 6, 6, 7, 1, 2, 2, 3, 2, 3, 3, 4, 2, 3, 3, 4, 3, 4, 4, 5, 2, 3, 3, 4, 3, 4, 4, 5, 3, 4, 4, 5, 4, 5, 5, 6, 2, 3, 3, 4, 3, 4, 4, 5, 3, 4, 4, 5, 4, 5, 5, 6, 3, 4, 4, 5, 4, 5, 5, 6, 4, 5, 5, 6, 5, 6, 6, 7, 2, 3, 3, 4, 3, 4, 4, 5, 3, 4, 4, 5, 4, 5, 5, 6, 3, 4, 4, 5, 4, 5, 5, 6, 4, 5, 5, 6, 5, 6, 6, 7, 3, 4, 4, 5, 4, 5, 5, 6, 4, 5, 5, 6, 5, 6, 6, 7, 4, 5, 5, 6, 5, 6, 6, 7, 5, 6, 6, 7, 6, 7, 7, 8]⟩

set_option maxRecDepth 100000 in
theorem pop8_eq : ∀ p, p < 256 → (pop8.data.getD p 0).toNat = (List.range 8).countP p.testBit := by decide +kernel

set_option maxRecDepth 100000 in
theorem popc_split (x : Nat) (hx : x < 4096) : popc x = (pop8.data.getD (x / 256) 0).toNat + (pop8.data.getD (x % 256) 0).toNat := by
  rw [pop8_eq _ (by omega), pop8_eq _ (by omega)]
  unfold popc
  have h1 : ∀ i, i < 8 → (x % 256).testBit i = x.testBit i := fun i hi => by
    rw [show 256 = 2 ^ 8 from rfl, Nat.testBit_mod_two_pow]; simp [hi]
  have h2 : ∀ i, (x / 256).testBit i = x.testBit (i + 8) := fun i => by
    rw [show 256 = 2 ^ 8 from rfl, Nat.testBit_div_two_pow]
  have h3 : ∀ i, 4 ≤ i → x.testBit (i + 8) = false := fun i hi => Nat.testBit_lt_two_pow (Nat.lt_of_lt_of_le hx (by
    rw [show 4096 = 2 ^ 12 from rfl]; exact Nat.pow_le_pow_right (by omega) (by omega)))
  simp only [show (List.range 12) = [0,1,2,3,4,5,6,7,8,9,10,11] from rfl, show (List.range 8) = [0,1,2,3,4,5,6,7] from rfl, List.countP_cons, List.countP_nil, h2]
  rw [h1 0 (by omega), h1 1 (by omega), h1 2 (by omega), h1 3 (by omega), h1 4 (by omega), h1 5 (by omega), h1 6 (by omega), h1 7 (by omega),
    h3 4 (by omega), h3 5 (by omega), h3 6 (by omega), h3 7 (by omega)]
  simp only [Nat.zero_add, Nat.reduceAdd]
  simp; omega

theorem popc_le (x : Nat) : popc x ≤ 12 := by unfold popc; exact Nat.le_trans List.countP_le_length (by simp)

set_option maxRecDepth 100000 in
theorem pop8_size : pop8.size = 256 := rfl
set_option maxRecDepth 100000 in
theorem ones_fin (x p q : Nat) (h0 : 0 < pop8.size) (hp : p < pop8.size) (hq : q < pop8.size) (hle : popc x ≤ 12) (hs : popc x = (pop8.data.getD p 0).toNat + (pop8.data.getD q 0).toNat) :
    (((pop8[0]'h0).toNat : Int) + ((pop8[0]'h0).toNat : Int) + ((pop8[p]'hp).toNat : Int) + ((pop8[q]'hq).toNat : Int)) % 256 = (popc x : Nat) := by
  have e : ∀ i (h : i < pop8.size), (pop8[i]'h) = pop8.data.getD i 0 := fun i h => by
    rw [Array.getD_eq_getD_getElem?, Array.getElem?_eq_getElem (by simpa using h)]; rfl
  rw [e, e, e]
  rw [show (pop8.data.getD 0 0) = 0 from rfl]
  rw [hs] at hle ⊢
  simp only [UInt8.toNat_zero]
  omega

set_option maxRecDepth 100000 in
set_option maxHeartbeats 400000 in
theorem ones_any (x : Nat) (hx : x < 4096) (w : World) :
    Calls Try.prog 35 #[.int .u32 x] w fun e w' => e = .returned (.int .i64 (popc x)) ∧ ∃ n, w' = w.drewN n := by
  have h1 : ((x : Int) / 16777216) = 0 := by omega
  have h2 : ((x : Int) / 65536) = 0 := by omega
  have hs := popc_split x hx
  have hle := popc_le x
  obtain ⟨p, hp, h3, hps⟩ : ∃ p : Nat, (p : Int) < 256 ∧ bits .and .u32 ((x : Int) / 256) 255 = p ∧ x / 256 = p := ⟨x / 256, by omega, by
    rw [show (x : Int) / 256 = ((x / 256 : Nat) : Int) by omega, show (255 : Int) = ((255 : Nat) : Int) from rfl, bits_and_u32 _ _ (by omega) (by omega),
      show 255 = 2 ^ 8 - 1 from rfl, Nat.and_two_pow_sub_one_eq_mod]; omega, rfl⟩
  obtain ⟨q, hq, h4, hqs⟩ : ∃ p : Nat, (p : Int) < 256 ∧ bits .and .u32 (x : Int) 255 = p ∧ x % 256 = p := ⟨x % 256, by omega, by
    rw [show (255 : Int) = ((255 : Nat) : Int) from rfl, bits_and_u32 _ _ (by omega) (by omega), show 255 = 2 ^ 8 - 1 from rfl, Nat.and_two_pow_sub_one_eq_mod], rfl⟩
  rw [hps, hqs] at hs
  have h5 : bits .and .u32 0 255 = 0 := by decide
  have g0 : 0 < pop8.size := by rw [pop8_size]; omega
  have gp : p < pop8.size := by rw [pop8_size]; omega
  have gq : q < pop8.size := by rw [pop8_size]; omega
  have Hf := Lib.hid (ones_fin x p q g0 gp gq hle hs)
  clear hs hps hqs
  go_enter Try.func35, Try.ntmps35
  go_wp2
  go_quiet (fail)
  go_wp2
  go_ret
  refine ⟨ret_int ?_, _, rfl⟩
  exact Hf.out

end Go.Proofs.Ytnfoabccbkedgaa

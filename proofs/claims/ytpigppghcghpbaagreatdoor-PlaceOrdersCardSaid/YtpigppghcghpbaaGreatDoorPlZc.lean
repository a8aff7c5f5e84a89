/- loanwordref09.digits. -/
import Derived.Test.YtpigppghcghpbaaGreatDoorPlZb
namespace Go.Proofs.YtpigppghcghpbaaGreatDoor
open Go.RowKit

def byteAt (s : ByteArray) (k : Nat) : Nat := (s.data.toList.getD k 0).toNat
theorem byteAt_eq (s : ByteArray) (k : Nat) (h : k < s.size) : (s[k]'h).toNat = byteAt s k := by
  unfold byteAt
  rw [List.getD_eq_getElem?_getD, List.getElem?_eq_getElem (by simpa using h)]; rfl
theorem wrap_u8 {x : Int} (h1 : 0 ≤ x) (h2 : x < 256) : IntKind.u8.wrap x = x := by
  show x % 256 = x
  omega
theorem hd0_byte (s : ByteArray) (h : 0 < s.size) : hd0 s.data.toList = byteAt s 0 := by
  unfold hd0 byteAt
  have h2 : 0 < s.data.toList.length := by rw [Array.length_toList]; exact h
  cases hl : s.data.toList with
  | nil => rw [hl] at h2; simp at h2
  | cons c r => rfl
theorem drop_byte (s : ByteArray) {j : Nat} (h : j < s.size) : ∃ c : UInt8, s.data.toList.drop j = c :: s.data.toList.drop (j + 1) ∧ c.toNat = byteAt s j := by
  have h2 : j < s.data.toList.length := by rw [Array.length_toList]; exact h
  refine ⟨s.data.toList[j], List.drop_eq_getElem_cons h2, ?_⟩
  unfold byteAt
  rw [List.getD_eq_getElem?_getD, List.getElem?_eq_getElem h2]; rfl
set_option maxRecDepth 100000 in
set_option maxHeartbeats 8000000 in
theorem digits_any (s : ByteArray) (hs : s.size ≤ 1000000) (w : World) :
    Calls Tryz.prog 53 #[.string s] w fun e w' => e = .returned (.tuple #[.int .i64 ((digS s.data.toList).1 : Nat), .int .i64 ((digS s.data.toList).2 : Nat)]) ∧ w' = w := by
  obtain ⟨R, hR⟩ : ∃ R, R = digS s.data.toList := ⟨_, rfl⟩
  rw [← hR]
  have HR := Lib.hid hR
  clear hR
  go_enter Tryz.func53, Tryz.ntmps53
  go_wp2_with fail
  go_loop [4, 5] (fun jv vv => ∃ j v : Nat, j ≤ s.size ∧ jv = .int .i64 (j : Nat) ∧ vv = .int .i64 (v : Nat) ∧ v ≤ 9223372036854775807 ∧ Hid (R = digF (hd0 s.data.toList) (s.data.toList.drop j) j v)) (fun jv _ => s.size - (intOf jv).toNat)
  case atStart => exact ⟨0, 0, Nat.zero_le _, rfl, rfl, by omega, Lib.hid (by rw [HR.out, List.drop_zero]; rfl)⟩
  case round =>
    obtain ⟨j, v, hj, rfl, rfl, hv, hr⟩ := hrel
    by_cases hlt : j < s.size
    · have d1 : decide ((j : Int) < (s.size : Int)) = true := decide_eq_true (by omega)
      have hb := byteAt_eq s j hlt
      have hb0 := byteAt_eq s 0 (by omega)
      obtain ⟨u, hdr, hu⟩ := drop_byte s hlt
      have hz0 := hd0_byte s (by omega)
      obtain ⟨c, hc⟩ : ∃ c, c = byteAt s j := ⟨_, rfl⟩
      obtain ⟨z, hz⟩ : ∃ z, z = byteAt s 0 := ⟨_, rfl⟩
      have hn : digF (hd0 s.data.toList) (s.data.toList.drop j) j v = if (decide (48 ≤ c) && decide (c ≤ 57)) = true then (if (decide ((9223372036854775807 - (c - 48)) / 10 < v) || decide (j = 1) && decide (z = 48)) = true then (0, 0) else digF (hd0 s.data.toList) (s.data.toList.drop (j + 1)) (j + 1) (10 * v + (c - 48))) else (v, j) := by
        rw [hdr, digF, isD, hu, hz0, hc, hz]
      rw [hn] at hr
      rw [← hc] at hb
      rw [← hz] at hb0
      have hc256 : c < 256 := by rw [hc, ← hu]; exact UInt8.toNat_lt _
      clear hn hc hz hu hdr hz0
      by_cases h48 : 48 ≤ c
      case neg =>
        have HE : Hid (R = (v, j)) := Lib.hid (by rw [hr.out, decide_eq_false h48]; rfl)
        have t1 : decide ((48 : Int) ≤ (c : Int)) = false := decide_eq_false (by omega)
        have t1n : decide (48 ≤ c) = false := decide_eq_false h48
        clear hr h48
        go_wp2_with fail
        go_ret2
        exact ⟨ret_eq (by rw [HE.out]; rfl), rfl⟩
      by_cases h57 : c ≤ 57
      case neg =>
        have HE : Hid (R = (v, j)) := Lib.hid (by rw [hr.out, decide_eq_false h57]; simp)
        have t1 : decide ((48 : Int) ≤ (c : Int)) = true := decide_eq_true (by omega)
        have t1n : decide (48 ≤ c) = true := decide_eq_true h48
        have t2 : decide ((c : Int) ≤ 57) = false := decide_eq_false (by omega)
        have t2n : decide (c ≤ 57) = false := decide_eq_false h57
        clear hr h48 h57
        go_wp2_with fail
        go_ret2
        exact ⟨ret_eq (by rw [HE.out]; rfl), rfl⟩
      have t1 : decide ((48 : Int) ≤ (c : Int)) = true := decide_eq_true (by omega)
      have t1n : decide (48 ≤ c) = true := decide_eq_true h48
      have t2 : decide ((c : Int) ≤ 57) = true := decide_eq_true (by omega)
      have t2n : decide (c ≤ 57) = true := decide_eq_true h57
      obtain ⟨y, hy⟩ : ∃ y, y = c - 48 := ⟨_, rfl⟩
      have w1 : IntKind.u8.wrap ((c : Int) - 48) = (y : Int) := by rw [wrap_u8 (by omega) (by omega)]; omega
      have hy9 : y ≤ 9 := by omega
      have w2 : IntKind.i64.wrap (y : Int) = (y : Int) := w64 (by omega) (by omega)
      have w3 : IntKind.i64.wrap (9223372036854775807 - (y : Int)) = 9223372036854775807 - (y : Int) := w64 (by omega) (by omega)
      obtain ⟨K, hK⟩ : ∃ K, K = (9223372036854775807 - y) / 10 := ⟨_, rfl⟩
      have w6 : (9223372036854775807 - (y : Int)) / 10 = (K : Int) := by omega
      have w6' : Int.tdiv (9223372036854775807 - (y : Int)) 10 = (K : Int) := by rw [Int.tdiv_eq_ediv_of_nonneg (by omega)]; omega
      have w6w : IntKind.i64.wrap (K : Int) = (K : Int) := w64 (by omega) (by omega)
      have hKb : 10 * K + y ≤ 9223372036854775807 := by omega
      have HN0 : Hid (R = if (decide (K < v) || decide (j = 1) && decide (z = 48)) = true then (0, 0) else digF (hd0 s.data.toList) (s.data.toList.drop (j + 1)) (j + 1) (10 * v + y)) := Lib.hid (by rw [hr.out, t1n, t2n, ← hy, ← hK]; rfl)
      clear hr h48 h57 hy hK hc256
      by_cases h3 : K < v
      · have HE : Hid (R = (0, 0)) := Lib.hid (by rw [HN0.out, decide_eq_true h3]; rfl)
        have t3 : decide ((K : Int) < (v : Int)) = true := decide_eq_true (by omega)
        have t3n : decide (K < v) = true := decide_eq_true h3
        clear h3
        go_wp2_with fail
        go_ret2
        exact ⟨ret_eq (by rw [HE.out]; rfl), rfl⟩
      have t3 : decide ((K : Int) < (v : Int)) = false := decide_eq_false (by omega)
      have t3n : decide (K < v) = false := decide_eq_false h3
      have w7 : IntKind.i64.wrap ((v : Int) * 10) = (v : Int) * 10 := w64 (by omega) (by omega)
      have w8 : IntKind.i64.wrap ((v : Int) * 10 + (y : Int)) = ((10 * v + y : Nat) : Int) := by rw [w64 (by omega) (by omega)]; omega
      have hvb : 10 * v + y ≤ 9223372036854775807 := by omega
      by_cases h1 : j = 1
      · have t4 : ((j : Int) == 1) = true := by simp; omega
        by_cases h2 : z = 48
        · have HE : Hid (R = (0, 0)) := Lib.hid (by rw [HN0.out, decide_eq_false h3, decide_eq_true h1, decide_eq_true h2]; rfl)
          have t5 : ((z : Int) == 48) = true := by simp; omega
          clear h1 h2 h3
          go_wp2_with fail
          go_ret2
          exact ⟨ret_eq (by rw [HE.out]; rfl), rfl⟩
        · have HN : Hid (R = digF (hd0 s.data.toList) (s.data.toList.drop (j + 1)) (j + 1) (10 * v + y)) := Lib.hid (by rw [HN0.out, decide_eq_false h3, decide_eq_false h2]; simp)
          have t5 : ((z : Int) == 48) = false := by simp; omega
          clear h1 h2 h3
          go_wp2_with fail
          refine ⟨⟨j + 1, 10 * v + y, by omega, by go_num, vint (by omega), by omega, HN⟩, by simp [intOf]; omega⟩
      · have HN : Hid (R = digF (hd0 s.data.toList) (s.data.toList.drop (j + 1)) (j + 1) (10 * v + y)) := Lib.hid (by rw [HN0.out, decide_eq_false h3, decide_eq_false h1]; simp)
        have t4 : ((j : Int) == 1) = false := by simp; omega
        clear h1 h3
        go_wp2_with fail
        refine ⟨⟨j + 1, 10 * v + y, by omega, by go_num, vint (by omega), by omega, HN⟩, by simp [intOf]; omega⟩
    · obtain rfl : j = s.size := by omega
      have d1 : decide ((s.size : Int) < (s.size : Int)) = false := decide_eq_false (by omega)
      have HE : Hid (R = (v, s.size)) := Lib.hid (by rw [hr.out, List.drop_of_length_le (by rw [Array.length_toList]; exact Nat.le_refl _)]; rfl)
      clear hr
      go_wp2_with fail
      go_ret2
      exact ⟨ret_eq (by rw [HE.out]; rfl), rfl⟩
end Go.Proofs.YtpigppghcghpbaaGreatDoor

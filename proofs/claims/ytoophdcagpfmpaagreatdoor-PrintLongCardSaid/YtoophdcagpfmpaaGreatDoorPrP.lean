/- How long the lines of a tree are, all in all. -/
import Derived.Test.YtoophdcagpfmpaaGreatDoorPrO
namespace Go.Proofs.YtoophdcagpfmpaaGreatDoor
open Go.RowKit

def szL (l : List ByteArray) : Nat := (l.map fun s => s.size + 1).sum
theorem szL_app (a b : List ByteArray) : szL (a ++ b) = szL a + szL b := by unfold szL; rw [List.map_append, List.sum_append]
theorem szL_one (s : ByteArray) : szL [s] = s.size + 1 := by simp [szL]
theorem szL_drop (l : List ByteArray) : szL l.dropLast ≤ szL l := by
  rcases List.eq_nil_or_concat l with rfl | ⟨a, b, rfl⟩
  · exact Nat.le_refl _
  · rw [List.concat_eq_append, List.dropLast_concat, szL_app]; omega
theorem szL_cat {g : Nat → List ByteArray} {w : Nat → Nat} {k : Nat} (h : ∀ i, i < k → szL (g i) ≤ 200000 * w i) : szL (catK g k) ≤ 200000 * sumK w k := by
  induction k with
  | zero => exact Nat.zero_le _
  | succ k ih =>
    have h1 := ih (fun i hi => h i (by omega))
    have h2 := h k (by omega)
    show szL (catK g k ++ g k) ≤ 200000 * (sumK w k + w k)
    rw [szL_app]; omega
section
variable {ts : List Nd} (h : TOk ts) (hok : ∀ x ∈ ts, NdOk x)
include h
theorem tyK_sz {n : Nat} (hn : n < ts.length) (i : Nat) : (tyK ts (ts.getD n nd0) i).size ≤ 200 * wK ts (ts.getD n nd0) i := by
  unfold tyK wK
  by_cases hi : i < (ts.getD n nd0).l.length
  · have e2 := h.kid hn hi
    rw [if_pos hi, if_pos hi]
    have := Ty_size h e2.2.1
    omega
  · rw [if_neg hi, if_neg hi]; exact Nat.le_refl _
theorem jn_td {n : Nat} (hn : n < ts.length) (a k : Nat) : (jnK ⟨#[44, 32]⟩ (fun i => tdK ts (ts.getD n nd0) (a + i)) k).size ≤ 200 * sumK (fun i => wK ts (ts.getD n nd0) (a + i)) k + 2 * k := by
  induction k with
  | zero => exact Nat.zero_le _
  | succ k ih =>
    have h2 : (tdK ts (ts.getD n nd0) (a + k)).size ≤ 200 * wK ts (ts.getD n nd0) (a + k) := by
      unfold tdK
      by_cases hi : a + k < (ts.getD n nd0).l.length
      · have e2 := h.kid hn hi
        have := typed_size h e2.2.1
        rw [if_pos hi, wK_at hi]
        omega
      · rw [if_neg hi]; exact Nat.zero_le _
    have e1 : (⟨#[44, 32]⟩ : ByteArray).size = 2 := rfl
    have e2 : sumK (fun i => wK ts (ts.getD n nd0) (a + i)) (k + 1) = sumK (fun i => wK ts (ts.getD n nd0) (a + i)) k + wK ts (ts.getD n nd0) (a + k) := rfl
    unfold jnK
    split
    · rename_i h0
      subst h0
      omega
    · rw [ByteArray.size_append, ByteArray.size_append]; omega
theorem jn_lf {n : Nat} (hn : n < ts.length) (k : Nat) : (jnK ⟨#[44, 32]⟩ (lfK ts (ts.getD n nd0)) k).size ≤ 200 * sumK (wK ts (ts.getD n nd0)) k + 2 * k := by
  induction k with
  | zero => exact Nat.zero_le _
  | succ k ih =>
    have h2 : (lfK ts (ts.getD n nd0) k).size ≤ 200 * wK ts (ts.getD n nd0) k := by
      unfold lfK
      by_cases hi : k < (ts.getD n nd0).l.length
      · have e2 := h.kid hn hi
        have := life_size h e2.2.1
        rw [if_pos hi, wK_at hi]
        omega
      · rw [if_neg hi]; exact Nat.zero_le _
    have e1 : (⟨#[44, 32]⟩ : ByteArray).size = 2 := rfl
    have e2 : sumK (wK ts (ts.getD n nd0)) (k + 1) = sumK (wK ts (ts.getD n nd0)) k + wK ts (ts.getD n nd0) k := rfl
    unfold jnK
    split
    · rename_i h0
      subst h0
      omega
    · rw [ByteArray.size_append, ByteArray.size_append]; omega
include hok
theorem exK_sz {n : Nat} (hn : n < ts.length) (i : Nat) : (exK ts (ts.getD n nd0) i).size ≤ 200 * wK ts (ts.getD n nd0) i := by
  unfold exK wK
  by_cases hi : i < (ts.getD n nd0).l.length
  · have e2 := h.kid hn hi
    rw [if_pos hi, if_pos hi]
    have := Ex_size h hok 1 e2.2.1
    omega
  · rw [if_neg hi, if_neg hi]; exact Nat.le_refl _
theorem st_size (d : Nat) : ∀ n inn P, n < ts.length → ts.length ≤ n + d → inn ≤ n → szL (St5 ts n inn P) ≤ P.size + 200000 * wt1 ts n - 70000 := by
  induction d with
  | zero => intro n inn P h1 h2; omega
  | succ d ih =>
    intro n inn P hn h2 hin
    have hs := (h.txt hn).2.1
    have hp := wt1_pos h.good hn
    have hlen := h.len
    have hbl := blB_size inn
    have hch : ∀ i inn P, inn ≤ n + 1 → szL (if i < (ts.getD n nd0).l.length then St5 ts (kid (ts.getD n nd0) i) inn P else []) ≤ if i < (ts.getD n nd0).l.length then P.size + 200000 * wK ts (ts.getD n nd0) i - 70000 else 0 := by
      intro i inn P hi2
      unfold wK
      by_cases hi : i < (ts.getD n nd0).l.length
      · have hk := h.kid hn hi
        rw [if_pos hi, if_pos hi, if_pos hi]
        exact ih _ _ _ hk.2.1 (by omega) (by omega)
      · rw [if_neg hi, if_neg hi]; exact Nat.le_refl _
    have hw1 : ∀ i, i < (ts.getD n nd0).l.length → 1 ≤ wK ts (ts.getD n nd0) i := fun i hi => by
      have hk := h.kid hn hi
      rw [wK_at hi]
      exact (wt1_pos h.good hk.2.1).1
    have hch2 : ∀ i inn P, inn ≤ n + 1 → szL (if i < (ts.getD n nd0).l.length then St5 ts (kid (ts.getD n nd0) i) inn P else []) ≤ P.size + 200000 * wK ts (ts.getD n nd0) i := fun i inn P hi2 => by
      have := hch i inn P hi2
      split at this <;> rename_i hi <;> simp only [hi, if_true, if_false] at this ⊢ <;> omega
    have w3 := wK_sum h.good hn 3
    have wl := wK_sum h.good hn (ts.getD n nd0).l.length
    have hone : ∀ i, wK ts (ts.getD n nd0) i + 1 ≤ wt1 ts n := fun i => by
      have h1 := wK_sum h.good hn (i + 1)
      have : sumK (wK ts (ts.getD n nd0)) (i + 1) = sumK (wK ts (ts.getD n nd0)) i + wK ts (ts.getD n nd0) i := rfl
      omega
    have x0 := exK_sz h hok hn 0
    have x1 := exK_sz h hok hn 1
    have xl := exK_sz h hok hn ((ts.getD n nd0).l.length - 1)
    have y0 := tyK_sz h hn 0
    have ol := hone ((ts.getD n nd0).l.length - 1)
    have o2 := hone ((ts.getD n nd0).l.length - 2)
    simp only [sumK] at w3
    rw [St_eq h.down hn]
    unfold stN
    simp only
    split
    · rw [szL_one]
      have hj : (jnK ⟨#[44, 32]⟩ (tdK ts (ts.getD n nd0)) (ts.getD n nd0).l.length).size ≤ 200 * sumK (wK ts (ts.getD n nd0)) (ts.getD n nd0).l.length + 2 * (ts.getD n nd0).l.length := by
        have := jn_td h hn 0 (ts.getD n nd0).l.length
        simp only [Nat.zero_add] at this
        exact this
      have hl := h.struct hn (by assumption)
      have : (structB ts (ts.getD n nd0)).size ≤ 200 * (wt1 ts n - 1) + 100 := by
        unfold structB
        simp only [ByteArray.size_append]
        have e1 : (⟨#[115, 116, 114, 117, 99, 116, 32]⟩ : ByteArray).size = 7 := rfl
        have e2 : (⟨#[32, 123, 32]⟩ : ByteArray).size = 3 := rfl
        have e3 : (⟨#[32, 125]⟩ : ByteArray).size = 2 := rfl
        omega
      rw [ByteArray.size_append]
      omega
    · have hc := hch2 ((ts.getD n nd0).l.length - 1) inn (P ++ fnHead ts (ts.getD n nd0)) (by omega)
      obtain ⟨k, hk, hk8, hk2, hl18, -, -, -, -⟩ := h.fn hn (by assumption)
      have j1 := jn_lf h hn k
      have j2 := jn_td h hn k ((ts.getD n nd0).l.length - 2 - k)
      have j3 := sumK_shift (wK ts (ts.getD n nd0)) k ((ts.getD n nd0).l.length - 2 - k)
      have j4 := tyK_sz h hn ((ts.getD n nd0).l.length - 2)
      obtain ⟨M, hM⟩ : ∃ M, (ts.getD n nd0).l.length = M + 2 := ⟨(ts.getD n nd0).l.length - 2, by omega⟩
      have w5 : sumK (wK ts (ts.getD n nd0)) (M + 2) = sumK (wK ts (ts.getD n nd0)) M + wK ts (ts.getD n nd0) M + wK ts (ts.getD n nd0) (M + 1) := rfl
      have hf : (fnHead ts (ts.getD n nd0)).size ≤ 200 * sumK (wK ts (ts.getD n nd0)) M + 200 * wK ts (ts.getD n nd0) M + 200 := by
        unfold fnHead livesB parB
        rw [hk, Int.toNat_natCast]
        have e1 : (⟨#[102, 110, 32]⟩ : ByteArray).size = 3 := rfl
        have e2 : (⟨#[40]⟩ : ByteArray).size = 1 := rfl
        have e3 : (⟨#[41, 32, 45, 62, 32]⟩ : ByteArray).size = 5 := rfl
        have e4 : (⟨#[32]⟩ : ByteArray).size = 1 := rfl
        have e5 : (⟨#[60]⟩ : ByteArray).size = 1 := rfl
        have e6 : (⟨#[62]⟩ : ByteArray).size = 1 := rfl
        have e7 : ByteArray.empty.size = 0 := rfl
        rw [hM] at j2 j3 j4 ⊢
        rw [show M + 2 - 2 = M by omega] at j2 j3 j4 ⊢
        rw [show k + (M - k) = M by omega] at j3
        split
        · simp only [ByteArray.size_append]; omega
        · simp only [ByteArray.size_append]; omega
      rw [hM] at hc wl
      rw [show M + 2 - 1 = M + 1 by omega] at hc
      rw [ByteArray.size_append] at hc
      rw [hM, show M + 2 - 1 = M + 1 by omega]
      omega
    · have hc := szL_cat (g := fun i => if i < (ts.getD n nd0).l.length then St5 ts (kid (ts.getD n nd0) i) (inn + 1) (blB (inn + 1)) else []) (w := wK ts (ts.getD n nd0)) (k := (ts.getD n nd0).l.length) (fun i hi => by
        have h3 := hch i (inn + 1) (blB (inn + 1)) (by omega)
        rw [if_pos hi] at h3
        have h4 := blB_size (inn + 1)
        have h5 := hw1 i hi
        rw [if_pos hi] at h3 ⊢
        omega)
      have e1 : (⟨#[123]⟩ : ByteArray).size = 1 := rfl
      have e2 : (⟨#[125]⟩ : ByteArray).size = 1 := rfl
      rw [szL_app, szL_app, szL_one, szL_one, ByteArray.size_append, ByteArray.size_append]
      omega
    · rw [szL_one]
      have : (letB ts (ts.getD n nd0)).size ≤ 400 * (wt1 ts n - 1) + 100 := by
        have e1 : (⟨#[108, 101, 116, 32]⟩ : ByteArray).size = 4 := rfl
        have e2 : (⟨#[58, 32]⟩ : ByteArray).size = 2 := rfl
        have e3 : (⟨#[32, 61, 32]⟩ : ByteArray).size = 3 := rfl
        unfold letB letA
        split <;> split <;> simp only [ByteArray.size_append] <;> omega
      have e1 : (⟨#[59]⟩ : ByteArray).size = 1 := rfl
      simp only [ByteArray.size_append]
      omega
    · rw [szL_one]
      have e1 : (⟨#[59]⟩ : ByteArray).size = 1 := rfl
      have e2 : (⟨#[32, 61, 32]⟩ : ByteArray).size = 3 := rfl
      simp only [ByteArray.size_append]
      omega
    · have h1 := hch2 1 inn (P ++ (⟨#[105, 102, 32]⟩ ++ exK ts (ts.getD n nd0) 0 ++ ⟨#[32]⟩)) (by omega)
      have h2 := hch2 2 inn (blB inn ++ ⟨#[125, 32, 101, 108, 115, 101, 32]⟩) (by omega)
      have e1 : (⟨#[105, 102, 32]⟩ : ByteArray).size = 3 := rfl
      have e2 : (⟨#[32]⟩ : ByteArray).size = 1 := rfl
      have e3 : (⟨#[125, 32, 101, 108, 115, 101, 32]⟩ : ByteArray).size = 7 := rfl
      simp only [ByteArray.size_append] at h1 h2
      split
      · omega
      · rw [szL_app]
        have := szL_drop (if 1 < (ts.getD n nd0).l.length then St5 ts (kid (ts.getD n nd0) 1) inn (P ++ (⟨#[105, 102, 32]⟩ ++ exK ts (ts.getD n nd0) 0 ++ ⟨#[32]⟩)) else [])
        omega
    · have h1 := hch2 1 inn (P ++ (⟨#[119, 104, 105, 108, 101, 32]⟩ ++ exK ts (ts.getD n nd0) 0 ++ ⟨#[32]⟩)) (by omega)
      have e1 : (⟨#[119, 104, 105, 108, 101, 32]⟩ : ByteArray).size = 6 := rfl
      have e2 : (⟨#[32]⟩ : ByteArray).size = 1 := rfl
      simp only [ByteArray.size_append] at h1
      omega
    · have h1 := hch2 0 inn (P ++ ⟨#[108, 111, 111, 112, 32]⟩) (by omega)
      have e1 : (⟨#[108, 111, 111, 112, 32]⟩ : ByteArray).size = 5 := rfl
      simp only [ByteArray.size_append] at h1
      omega
    · rw [szL_one]
      have e1 : (⟨#[98, 114, 101, 97, 107, 59]⟩ : ByteArray).size = 6 := rfl
      simp only [ByteArray.size_append]
      omega
    · rw [szL_one]
      have e1 : (⟨#[99, 111, 110, 116, 105, 110, 117, 101, 59]⟩ : ByteArray).size = 9 := rfl
      simp only [ByteArray.size_append]
      omega
    · rw [szL_one]
      have e1 : (⟨#[114, 101, 116, 117, 114, 110, 32]⟩ : ByteArray).size = 7 := rfl
      have e2 : (⟨#[59]⟩ : ByteArray).size = 1 := rfl
      simp only [ByteArray.size_append]
      omega
    · rw [szL_one]
      have e1 : (⟨#[112, 114, 105, 110, 116, 40]⟩ : ByteArray).size = 6 := rfl
      have e2 : (⟨#[41, 59]⟩ : ByteArray).size = 2 := rfl
      simp only [ByteArray.size_append]
      omega
    · rw [szL_one]
      have e2 : (⟨#[59]⟩ : ByteArray).size = 1 := rfl
      simp only [ByteArray.size_append]
      omega
    · exact Nat.zero_le _
theorem lines_size : szL (linesN ts) ≤ 200000 * ts.length := by
  have h0 := h.good.1
  have hw := wt1_pos h.good h0
  unfold linesN
  split
  · have hc := szL_cat (g := fun i => if i < (ts.getD 0 nd0).l.length then St5 ts (kid (ts.getD 0 nd0) i) 0 ByteArray.empty else []) (w := wK ts (ts.getD 0 nd0)) (k := (ts.getD 0 nd0).l.length) (fun i hi => by
      have hk := h.kid h0 hi
      have h3 := st_size h hok ts.length _ 0 ByteArray.empty hk.2.1 (by omega) (Nat.zero_le _)
      rw [if_pos hi, wK_at hi]
      have : ByteArray.empty.size = 0 := rfl
      omega)
    have := wK_sum h.good h0 (ts.getD 0 nd0).l.length
    omega
  · have h3 := st_size h hok ts.length 0 0 ByteArray.empty h0 (by omega) (Nat.zero_le _)
    have : ByteArray.empty.size = 0 := rfl
    omega
end
end Go.Proofs.YtoophdcagpfmpaaGreatDoor

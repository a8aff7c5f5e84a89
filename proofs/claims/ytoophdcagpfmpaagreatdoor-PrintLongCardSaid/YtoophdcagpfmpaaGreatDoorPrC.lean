/- How long the texts of a tree are. -/
import Derived.Test.YtoophdcagpfmpaaGreatDoorPrB
import Derived.Lib.ItoaLen
namespace Go.Proofs.YtoophdcagpfmpaaGreatDoor
open Go.RowKit

def sumK (g : Nat → Nat) : Nat → Nat
  | 0 => 0
  | k + 1 => sumK g k + g k
theorem sumK_mono (g : Nat → Nat) {j k : Nat} (h : j ≤ k) : sumK g j ≤ sumK g k := by
  induction k with
  | zero => have : j = 0 := by omega
            subst this; exact Nat.le_refl _
  | succ k ih =>
    rcases Nat.lt_or_eq_of_le h with h | rfl
    · have := ih (by omega)
      show sumK g j ≤ sumK g k + g k
      omega
    · exact Nat.le_refl _
theorem sumK_le {f g : Nat → Nat} {k : Nat} (h : ∀ i, i < k → f i ≤ g i) : sumK f k ≤ sumK g k := by
  induction k with
  | zero => exact Nat.le_refl _
  | succ k ih =>
    have := ih (fun i hi => h i (by omega))
    have := h k (by omega)
    unfold sumK; omega
theorem sumK_mul (c : Nat) (g : Nat → Nat) (k : Nat) : sumK (fun i => c * g i) k = c * sumK g k := by
  induction k with
  | zero => rfl
  | succ k ih => unfold sumK; rw [ih, Nat.mul_add]
theorem sumK_shift (g : Nat → Nat) (a k : Nat) : sumK g a + sumK (fun i => g (a + i)) k = sumK g (a + k) := by
  induction k with
  | zero => rfl
  | succ k ih =>
    have e : sumK (fun i => g (a + i)) (k + 1) = sumK (fun i => g (a + i)) k + g (a + k) := rfl
    have e2 : sumK g (a + (k + 1)) = sumK g (a + k) + g (a + k) := rfl
    omega
theorem sumK_list (f : Int → Nat) (l : List Int) (k : Nat) (hk : k ≤ l.length) : sumK (fun i => if i < l.length then f (l.getD i 0) else 0) k = ((l.take k).map f).sum := by
  induction k with
  | zero => rfl
  | succ k ih =>
    unfold sumK
    rw [ih (by omega), if_pos (by omega), List.take_succ_eq_append_getElem (by omega), List.map_append, List.sum_append, List.getD_eq_getElem?_getD, List.getElem?_eq_getElem (by omega)]
    simp
theorem sumK_full (f : Int → Nat) (l : List Int) (k : Nat) : sumK (fun i => if i < l.length then f (l.getD i 0) else 0) k ≤ (l.map f).sum := by
  have h1 : sumK (fun i => if i < l.length then f (l.getD i 0) else 0) l.length = (l.map f).sum := by rw [sumK_list f l _ (Nat.le_refl _), List.take_length]
  rw [← h1]
  by_cases hk : k ≤ l.length
  · exact sumK_mono _ hk
  · obtain ⟨d, rfl⟩ : ∃ d, k = l.length + d := ⟨k - l.length, by omega⟩
    rw [← sumK_shift]
    have : sumK (fun i => if l.length + i < l.length then f (l.getD (l.length + i) 0) else 0) d ≤ sumK (fun _ => 0) d := sumK_le (fun i _ => by rw [if_neg (by omega)]; exact Nat.le_refl _)
    have h0 : ∀ d, sumK (fun _ => 0) d = 0 := fun d => by
      induction d with
      | zero => rfl
      | succ d ih => unfold sumK; rw [ih]
    have := h0 d
    omega
theorem chain_sum {rec : Nat → Option Nat} {N : Nat} (hrec : ∀ m k, m < N → rec m = some k → m < k ∧ k ≤ N) (l : List Int) : ∀ m k, walkC rec N l m = some k → (l.map fun c => (rec c.toNat).getD 0 - c.toNat).sum + m = k := by
  induction l with
  | nil => intro m k h; simp only [walkC, Option.some.injEq] at h; simp [h]
  | cons c cs ih =>
    intro m k h
    unfold walkC at h
    split at h
    · rename_i hc
      obtain ⟨m', h1, h2⟩ := Option.bind_eq_some_iff.1 h
      have h3 := hrec m m' hc.2 h1
      have h4 := ih m' k h2
      have e : c.toNat = m := by omega
      rw [List.map_cons, List.sum_cons, e, h1]
      simp only [Option.getD_some]
      omega
    · cases h
section
variable (ts : List Nd)
/-- How many nodes there are from a node on. -/
def wt1 (n : Nat) : Nat := En ts n - n
def wK (x : Nd) (i : Nat) : Nat := if i < x.l.length then wt1 ts (kid x i) else 0
end
section
variable {ts : List Nd}
theorem wK_sum (hg : Good ts) {n : Nat} (hn : n < ts.length) (k : Nat) : sumK (wK ts (ts.getD n nd0)) k + 1 ≤ wt1 ts n := by
  have h1 := En_spec hg hn
  have h2 := chain_sum (wt_rec (ts := ts)) _ _ _ (wt_kids hn h1.1)
  have h3 := sumK_full (fun c => (Wt ts c.toNat).getD 0 - c.toNat) (kids ts n) k
  have h4 : sumK (wK ts (ts.getD n nd0)) k = sumK (fun i => if i < (kids ts n).length then (fun c : Int => (Wt ts c.toNat).getD 0 - c.toNat) ((kids ts n).getD i 0) else 0) k := rfl
  have h5 : sumK (wK ts (ts.getD n nd0)) k ≤ ((kids ts n).map fun c => (Wt ts c.toNat).getD 0 - c.toNat).sum := by rw [h4]; exact h3
  unfold wt1
  omega
theorem wt1_pos (hg : Good ts) {n : Nat} (hn : n < ts.length) : 1 ≤ wt1 ts n ∧ wt1 ts n + n ≤ ts.length := by
  have h1 := En_spec hg hn
  unfold wt1
  omega
theorem jnK_size {sep : ByteArray} {g : Nat → ByteArray} {C : Nat} {w : Nat → Nat} {k : Nat} (h : ∀ i, i < k → (g i).size + sep.size ≤ C * w i) : (jnK sep g k).size ≤ C * sumK w k := by
  induction k with
  | zero => exact Nat.zero_le _
  | succ k ih =>
    have h1 := ih (fun i hi => h i (by omega))
    have h2 := h k (by omega)
    unfold jnK sumK
    rw [Nat.mul_add]
    split
    · rename_i h0
      subst h0
      omega
    · rw [ByteArray.size_append, ByteArray.size_append]; omega
theorem ampB_size (life : ByteArray) (m : Bool) (s : ByteArray) : (ampB life m s).size ≤ s.size + life.size + 7 := by
  unfold ampB
  split
  · split
    · rw [ByteArray.size_append]; have : (⟨#[38, 109, 117, 116, 32]⟩ : ByteArray).size = 5 := rfl; omega
    · split
      · rw [ByteArray.size_append]; have : (⟨#[38, 32]⟩ : ByteArray).size = 2 := rfl; omega
      · rw [ByteArray.size_append]; have : (⟨#[38]⟩ : ByteArray).size = 1 := rfl; omega
  · split
    · rw [ByteArray.size_append, ByteArray.size_append, ByteArray.size_append]
      have h1 : (⟨#[38, 39]⟩ : ByteArray).size = 2 := rfl
      have h2 : (⟨#[32, 109, 117, 116, 32]⟩ : ByteArray).size = 5 := rfl
      omega
    · rw [ByteArray.size_append, ByteArray.size_append, ByteArray.size_append]
      have h1 : (⟨#[38, 39]⟩ : ByteArray).size = 2 := rfl
      have h2 : (⟨#[32]⟩ : ByteArray).size = 1 := rfl
      omega
theorem itoa_size {n : Int} (h1 : -9223372036854775808 ≤ n) (h2 : n ≤ 9223372036854775807) : (⟨(Lib.itoa n).toArray⟩ : ByteArray).size ≤ 21 := Lib.itoa_length_le n h1 h2

theorem wK_at {x : Nd} {i : Nat} (hi : i < x.l.length) : wK ts x i = wt1 ts (kid x i) := if_pos hi
theorem wK_two (x : Nd) : wK ts x 0 + wK ts x 1 = sumK (wK ts x) 2 := by simp [sumK]
theorem wK_three (x : Nd) : wK ts x 0 + wK ts x 1 + wK ts x 2 = sumK (wK ts x) 3 := by simp [sumK]

theorem ex_size (h : TOk ts) (hok : ∀ x ∈ ts, NdOk x) (d : Nat) : ∀ n least, n < ts.length → ts.length ≤ n + d → (Ex ts n least).size + 10 ≤ 200 * wt1 ts n := by
  induction d with
  | zero => intro n least h1 h2; omega
  | succ d ih =>
    intro n least hn h2
    have hs := (h.txt hn).2.1
    have hx := hok _ (getD_memN hn)
    have hch : ∀ i l, (chE (Ex ts) (ts.getD n nd0) i l).size + (if i < (ts.getD n nd0).l.length then 10 else 0) ≤ 200 * wK ts (ts.getD n nd0) i := by
      intro i l
      unfold chE wK
      by_cases hi : i < (ts.getD n nd0).l.length
      · have hk := h.kid hn hi
        rw [if_pos hi, if_pos hi, if_pos hi]
        exact ih _ l hk.2.1 (by omega)
      · rw [if_neg hi, if_neg hi, if_neg hi]; exact Nat.le_refl _
    have hini : ∀ i, i < (ts.getD n nd0).l.length → (iniE ts (Ex ts) (ts.getD n nd0) i).size + 10 ≤ 200 * wK ts (ts.getD n nd0) i := by
      intro i hi
      have hk := h.kid hn hi
      have hs2 := (h.txt hk.2.1).2.1
      have hw := wK_sum h.good hk.2.1 1
      unfold iniE
      rw [if_pos hi, wK_at hi, ByteArray.size_append, ByteArray.size_append]
      have h3 : (⟨#[58, 32]⟩ : ByteArray).size = 2 := rfl
      have h4 : (chE (Ex ts) (ts.getD (kid (ts.getD n nd0) i) nd0) 0 1).size ≤ 200 * wK ts (ts.getD (kid (ts.getD n nd0) i) nd0) 0 := by
        unfold chE wK
        by_cases hj : 0 < (ts.getD (kid (ts.getD n nd0) i) nd0).l.length
        · have hk2 := h.kid hk.2.1 hj
          rw [if_pos hj, if_pos hj]
          have := ih _ 1 hk2.2.1 (by omega)
          omega
        · rw [if_neg hj, if_neg hj]; exact Nat.le_refl _
      simp only [sumK] at hw
      omega
    have hb : (bareN (ts.getD n nd0) (chE (Ex ts) (ts.getD n nd0)) (iniE ts (Ex ts) (ts.getD n nd0))).size ≤ 200 * (wt1 ts n - 1) + 100 := by
      have w2 := wK_sum h.good hn 2
      have wl := wK_sum h.good hn (ts.getD n nd0).l.length
      simp only [sumK] at w2
      have j1 : (jnK ⟨#[44, 32]⟩ (fun i => chE (Ex ts) (ts.getD n nd0) i 1) (ts.getD n nd0).l.length).size ≤ 200 * sumK (wK ts (ts.getD n nd0)) (ts.getD n nd0).l.length := jnK_size (fun i hi => by
        have := hch i 1
        rw [if_pos hi] at this
        have : (⟨#[44, 32]⟩ : ByteArray).size = 2 := rfl
        omega)
      have j2 : (jnK ⟨#[44, 32]⟩ (iniE ts (Ex ts) (ts.getD n nd0)) (ts.getD n nd0).l.length).size ≤ 200 * sumK (wK ts (ts.getD n nd0)) (ts.getD n nd0).l.length := jnK_size (fun i hi => by
        have := hini i hi
        have : (⟨#[44, 32]⟩ : ByteArray).size = 2 := rfl
        omega)
      generalize sumK (wK ts (ts.getD n nd0)) (ts.getD n nd0).l.length = SL at j1 j2 wl
      have hi := itoa_size hx.n1 hx.n2
      have c0 := fun l => hch 0 l
      have c1 := fun l => hch 1 l
      generalize wK ts (ts.getD n nd0) 0 = k0 at c0 w2
      generalize wK ts (ts.getD n nd0) 1 = k1 at c1 w2
      unfold bareN
      split
      · omega
      · split
        · have : (⟨#[116, 114, 117, 101]⟩ : ByteArray).size = 4 := rfl
          omega
        · have : (⟨#[102, 97, 108, 115, 101]⟩ : ByteArray).size = 5 := rfl
          omega
      · omega
      · have := c0 7
        have : (⟨#[46]⟩ : ByteArray).size = 1 := rfl
        simp only [ByteArray.size_append]; omega
      · have := c0 6
        have : (⟨#[42]⟩ : ByteArray).size = 1 := rfl
        simp only [ByteArray.size_append]; omega
      · have := c0 6
        have := ampB_size ByteArray.empty ((ts.getD n nd0).n == 1) (chE (Ex ts) (ts.getD n nd0) 0 6)
        have : ByteArray.empty.size = 0 := rfl
        omega
      · have := c0 6
        have : (⟨#[45]⟩ : ByteArray).size = 1 := rfl
        simp only [ByteArray.size_append]; omega
      · have := c0 6
        have : (⟨#[33]⟩ : ByteArray).size = 1 := rfl
        simp only [ByteArray.size_append]; omega
      · have := c0 (if lvP 32 (ts.getD n nd0).s = 3 then 4 else lvP 32 (ts.getD n nd0).s)
        have := c1 (lvP 32 (ts.getD n nd0).s + 1)
        have : (⟨#[32]⟩ : ByteArray).size = 1 := rfl
        simp only [ByteArray.size_append]; omega
      · have : (⟨#[40]⟩ : ByteArray).size = 1 := rfl
        have : (⟨#[41]⟩ : ByteArray).size = 1 := rfl
        simp only [ByteArray.size_append]; omega
      · have : (⟨#[32, 123, 32]⟩ : ByteArray).size = 3 := rfl
        have : (⟨#[32, 125]⟩ : ByteArray).size = 2 := rfl
        simp only [ByteArray.size_append]; omega
      · have := c0 1
        have : (⟨#[98, 111, 120, 40]⟩ : ByteArray).size = 4 := rfl
        have : (⟨#[41]⟩ : ByteArray).size = 1 := rfl
        simp only [ByteArray.size_append]; omega
      · have : (⟨#[114, 101, 97, 100, 40, 41]⟩ : ByteArray).size = 6 := rfl
        omega
    have hp := wt1_pos h.good hn
    rw [Ex_eq h.down hn, wrapN]
    split
    · have : (⟨#[40]⟩ : ByteArray).size = 1 := rfl
      have : (⟨#[41]⟩ : ByteArray).size = 1 := rfl
      simp only [ByteArray.size_append]; omega
    · omega
theorem Ex_size (h : TOk ts) (hok : ∀ x ∈ ts, NdOk x) {n : Nat} (least : Nat) (hn : n < ts.length) : (Ex ts n least).size + 10 ≤ 200 * wt1 ts n := ex_size h hok ts.length n least hn (by omega)
theorem ty_size (h : TOk ts) (d : Nat) : ∀ n, n < ts.length → ts.length ≤ n + d → (Ty ts n).size + 10 ≤ 200 * wt1 ts n := by
  induction d with
  | zero => intro n h1 h2; omega
  | succ d ih =>
    intro n hn h2
    have hs := (h.txt hn).2.1
    have hch : (tyK ts (ts.getD n nd0) 0).size ≤ 200 * wK ts (ts.getD n nd0) 0 := by
      unfold tyK wK
      by_cases hi : 0 < (ts.getD n nd0).l.length
      · have hk := h.kid hn hi
        rw [if_pos hi, if_pos hi]
        have := ih _ hk.2.1 (by omega)
        omega
      · rw [if_neg hi, if_neg hi]; exact Nat.le_refl _
    have w2 := wK_sum h.good hn 1
    simp only [sumK] at w2
    rw [Ty_eq h.down hn]
    unfold tyN
    split
    · have : (⟨#[105, 54, 52]⟩ : ByteArray).size = 3 := rfl
      omega
    · have : (⟨#[98, 111, 111, 108]⟩ : ByteArray).size = 4 := rfl
      omega
    · have : (⟨#[66, 111, 120, 60]⟩ : ByteArray).size = 4 := rfl
      have : (⟨#[62]⟩ : ByteArray).size = 1 := rfl
      simp only [ByteArray.size_append]; omega
    · have := ampB_size (ts.getD n nd0).s ((ts.getD n nd0).n == 1) (tyK ts (ts.getD n nd0) 0)
      omega
    · omega
theorem Ty_size (h : TOk ts) {n : Nat} (hn : n < ts.length) : (Ty ts n).size + 10 ≤ 200 * wt1 ts n := ty_size h ts.length n hn (by omega)
end
end Go.Proofs.YtoophdcagpfmpaaGreatDoor

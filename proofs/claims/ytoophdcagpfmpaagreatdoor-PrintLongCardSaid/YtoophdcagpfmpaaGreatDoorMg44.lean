/- The tree of PrintLong, plainly: a block of returns; its lines and how long they are. loanwordlaw05.one: a tree of one node. -/
import Derived.Test.YtoophdcagpfmpaaGreatDoorPrR
import Derived.Test.YtoophdcagpfmpaaGreatDoorPrS
namespace Go.Proofs.YtoophdcagpfmpaaGreatDoor
open Go.RowKit

def lgK (i : Nat) : Nd := ⟨21, 0, 0, ⟨#[]⟩, [((2 * i + 2 : Nat) : Int)]⟩
def lgV (v : Int) : Nd := ⟨24, 0, v, ⟨#[]⟩, []⟩
def lgR (v : Nat → Int) : Nat → List Nd
  | 0 => []
  | i + 1 => lgR v i ++ [lgK i, lgV (v i)]
def lgL : Nat → List Int
  | 0 => []
  | i + 1 => lgL i ++ [((2 * i + 1 : Nat) : Int)]
def lgRoot (M : Nat) : Nd := ⟨13, 0, 0, ⟨#[]⟩, lgL M⟩
def lgT (v : Nat → Int) (M : Nat) : List Nd := lgRoot M :: lgR v M
theorem lgL_len (M : Nat) : (lgL M).length = M := by
  induction M with
  | zero => rfl
  | succ M ih => simp [lgL, ih]
theorem lgR_len (v : Nat → Int) (M : Nat) : (lgR v M).length = 2 * M := by
  induction M with
  | zero => rfl
  | succ M ih => simp [lgR, ih]; omega
theorem lgT_len (v : Nat → Int) (M : Nat) : (lgT v M).length = 2 * M + 1 := by simp [lgT, lgR_len]
theorem lgL_get (M i : Nat) (hi : i < M) : (lgL M).getD i 0 = ((2 * i + 1 : Nat) : Int) := by
  induction M with
  | zero => omega
  | succ M ih =>
    unfold lgL
    by_cases h : i < M
    · rw [List.getD_eq_getElem?_getD, List.getElem?_append_left (by rw [lgL_len]; exact h), ← List.getD_eq_getElem?_getD, ih h]
    · obtain rfl : i = M := by omega
      rw [List.getD_eq_getElem?_getD, List.getElem?_append_right (by rw [lgL_len]; omega), lgL_len, Nat.sub_self]
      rfl
theorem lgR_get (v : Nat → Int) (M i : Nat) (hi : i < M) : (lgR v M).getD (2 * i) nd0 = lgK i ∧ (lgR v M).getD (2 * i + 1) nd0 = lgV (v i) := by
  induction M with
  | zero => omega
  | succ M ih =>
    unfold lgR
    by_cases h : i < M
    · rw [List.getD_eq_getElem?_getD, List.getD_eq_getElem?_getD, List.getElem?_append_left (by rw [lgR_len]; omega), List.getElem?_append_left (by rw [lgR_len]; omega), ← List.getD_eq_getElem?_getD, ← List.getD_eq_getElem?_getD]
      exact ih h
    · obtain rfl : i = M := by omega
      rw [List.getD_eq_getElem?_getD, List.getD_eq_getElem?_getD, List.getElem?_append_right (by rw [lgR_len]; omega), List.getElem?_append_right (by rw [lgR_len]; omega), lgR_len, Nat.sub_self, Nat.add_sub_cancel_left]
      exact ⟨rfl, rfl⟩
section
variable (v : Nat → Int) (M : Nat)
theorem lgT_zero : (lgT v M).getD 0 nd0 = lgRoot M := rfl
theorem lgT_ret {i : Nat} (hi : i < M) : (lgT v M).getD (2 * i + 1) nd0 = lgK i := by
  have := (lgR_get v M i hi).1
  rw [← this]; rfl
theorem lgT_int {i : Nat} (hi : i < M) : (lgT v M).getD (2 * i + 2) nd0 = lgV (v i) := by
  have := (lgR_get v M i hi).2
  rw [← this]; rfl
theorem lgT_any {j : Nat} (hj : j < 2 * M + 1) : j = 0 ∨ (∃ i, i < M ∧ j = 2 * i + 1) ∨ ∃ i, i < M ∧ j = 2 * i + 2 := by
  rcases Nat.mod_two_eq_zero_or_one j with h | h
  · by_cases h0 : j = 0
    · exact Or.inl h0
    · exact Or.inr (Or.inr ⟨j / 2 - 1, by omega, by omega⟩)
  · exact Or.inr (Or.inl ⟨j / 2, by omega, by omega⟩)
theorem lgT_wt_int {i : Nat} (hi : i < M) : Wt (lgT v M) (2 * i + 2) = some (2 * i + 3) := by
  rw [Wt_eq (by rw [lgT_len]; omega), lgT_int v M hi]; rfl
theorem lgT_wt_ret {i : Nat} (hi : i < M) : Wt (lgT v M) (2 * i + 1) = some (2 * i + 3) := by
  rw [Wt_eq (by rw [lgT_len]; omega), lgT_ret v M hi]
  show walkC _ _ [((2 * i + 2 : Nat) : Int)] (2 * i + 1 + 1) = _
  unfold walkC
  rw [if_pos ⟨rfl, by rw [lgT_len]; omega⟩, lgT_wt_int v M hi]; rfl
theorem lgL_walk (d : Nat) : ∀ i, i + d = M → walkC (Wt (lgT v M)) (lgT v M).length ((lgL M).drop i) (2 * i + 1) = some (2 * M + 1) := by
  induction d with
  | zero =>
    intro i hi
    rw [List.drop_of_length_le (by rw [lgL_len]; omega), show i = M by omega]; rfl
  | succ d ih =>
    intro i hi
    have hlt : i < M := by omega
    rw [List.drop_eq_getElem_cons (by rw [lgL_len]; exact hlt)]
    have e : (lgL M)[i]'(by rw [lgL_len]; exact hlt) = ((2 * i + 1 : Nat) : Int) := by
      have := lgL_get M i hlt
      rw [List.getD_eq_getElem?_getD, List.getElem?_eq_getElem (by rw [lgL_len]; exact hlt)] at this
      exact this
    rw [e]
    unfold walkC
    rw [if_pos ⟨rfl, by rw [lgT_len]; omega⟩, lgT_wt_ret v M hlt]
    exact ih (i + 1) (by omega)
theorem lgT_good : Good (lgT v M) := by
  refine ⟨by rw [lgT_len]; omega, ?_⟩
  rw [Wt_eq (by rw [lgT_len]; omega), lgT_len]
  have := lgL_walk v M M 0 (by omega)
  rw [lgT_len] at this
  exact this
theorem lgL_mem {c : Int} (h : c ∈ lgL M) : ∃ i, i < M ∧ c = ((2 * i + 1 : Nat) : Int) := by
  obtain ⟨i, hi, rfl⟩ := List.getElem_of_mem h
  have hi' : i < M := by rw [lgL_len] at hi; exact hi
  refine ⟨i, hi', ?_⟩
  have := lgL_get M i hi'
  rw [List.getD_eq_getElem?_getD, List.getElem?_eq_getElem hi] at this
  exact this
theorem all_at {ts : List Nd} {p : Nd → Bool} (h : ∀ j, j < ts.length → p (ts.getD j nd0) = true) : ts.all p = true := by
  rw [List.all_eq_true]
  intro x hx
  obtain ⟨j, hj, rfl⟩ := List.getElem_of_mem hx
  have := h j hj
  rwa [List.getD_eq_getElem?_getD, List.getElem?_eq_getElem hj] at this
theorem emptyB_nil : emptyB ⟨#[]⟩ = true := by decide +kernel
theorem ndOk_mk {k : Nat} {n : Int} {l : List Int} (hk : k < 256) (h1 : -9223372036854775808 ≤ n) (h2 : n ≤ 9223372036854775807) (hl : ∀ c ∈ l, -9223372036854775808 ≤ c ∧ c ≤ 9223372036854775807) : NdOk ⟨k, 0, n, ⟨#[]⟩, l⟩ :=
  ⟨hk, (by decide : (-9223372036854775808 : Int) ≤ 0), (by decide : (0 : Int) ≤ 9223372036854775807), h1, h2, (by decide : (⟨#[]⟩ : ByteArray).size ≤ 9223372036854775807), hl⟩
theorem lgT_asks (hM : M ≤ 8001) (hv : ∀ i, i < M → 0 ≤ v i ∧ v i ≤ 9223372036854775807) : (lgT v M).all (asksN (lgT v M)) = true := by
  refine all_at fun j hj => ?_
  have hl := lgT_len v M
  rw [hl] at hj
  rcases lgT_any M hj with rfl | ⟨i, hi, rfl⟩ | ⟨i, hi, rfl⟩
  · rw [lgT_zero]
    unfold asksN lgRoot
    simp only [Bool.and_eq_true, decide_eq_true_eq, List.all_eq_true]
    refine ⟨⟨⟨by decide, by rw [lgL_len, hl]; omega⟩, fun c hc => ?_⟩, ?_⟩
    · obtain ⟨i, hi, rfl⟩ := lgL_mem M hc
      unfold inB
      rw [hl]
      simp only [Bool.and_eq_true, decide_eq_true_eq]
      omega
    · have h1 : askedB ((lgL M).map (kindOf (lgT v M))) 0 16384 .st = true := by
        unfold askedB
        simp only [Bool.and_eq_true, decide_eq_true_eq, List.all_eq_true, List.length_map, lgL_len]
        refine ⟨⟨by omega, by omega⟩, fun k hk => ?_⟩
        obtain ⟨c, hc, rfl⟩ := List.mem_map.1 hk
        obtain ⟨i, hi, rfl⟩ := lgL_mem M hc
        unfold kindOf
        rw [Int.toNat_natCast, lgT_ret v M hi]; rfl
      unfold askB askR
      simp only [h1, emptyB_nil]
      rfl
  · rw [lgT_ret v M hi]
    unfold asksN lgK
    have h1 : kindOf (lgT v M) ((2 * i + 2 : Nat) : Int) = 24 := by
      unfold kindOf
      rw [Int.toNat_natCast, lgT_int v M hi]; rfl
    have h2 : inB (lgT v M) ((2 * i + 2 : Nat) : Int) = true := by
      unfold inB
      rw [hl]
      simp only [Bool.and_eq_true, decide_eq_true_eq]
      omega
    simp only [List.all_cons, List.all_nil, List.map_cons, List.map_nil, h1, h2, hl, List.length_singleton]
    rw [show decide (1 ≤ 2 * M + 1) = true from decide_eq_true (by omega), show askB 21 0 ⟨#[]⟩ [24] = true by decide +kernel]
    rfl
  · rw [lgT_int v M hi]
    unfold asksN lgV
    have := hv i hi
    unfold askB askR
    simp only [List.all_nil, List.map_nil, hl, List.length_nil]
    rw [show decide (0 ≤ 2 * M + 1) = true from decide_eq_true (by omega), show decide (0 ≤ v i) = true from decide_eq_true this.1, show decide (v i ≤ 9223372036854775807) = true from decide_eq_true this.2, emptyB_nil]
    rfl
theorem lgT_deep : deepN (lgT v M) ≤ 48 := by
  have hl := lgT_len v M
  have hint : ∀ f i, i < M → deepF (lgT v M) f (2 * i + 2) ≤ 1 := by
    intro f i hi
    cases f with
    | zero => exact Nat.zero_le _
    | succ f =>
      unfold deepF
      rw [lgT_int v M hi]; exact Nat.le_refl _
  have hret : ∀ f i, i < M → deepF (lgT v M) f (2 * i + 1) ≤ 2 := by
    intro f i hi
    cases f with
    | zero => exact Nat.zero_le _
    | succ f =>
      unfold deepF
      rw [lgT_ret v M hi]
      rcases deepC_in (rec := deepF (lgT v M) f) [((2 * i + 2 : Nat) : Int)] 0 with h | ⟨c, hc, h⟩
      · show deepC _ [((2 * i + 2 : Nat) : Int)] 0 + 1 ≤ 2
        omega
      · rw [List.mem_singleton] at hc
        subst hc
        rw [Int.toNat_natCast] at h
        have := hint f i hi
        show deepC _ [((2 * i + 2 : Nat) : Int)] 0 + 1 ≤ 2
        omega
  unfold deepN
  rw [hl]
  unfold deepF
  rw [lgT_zero]
  rcases deepC_in (rec := deepF (lgT v M) (2 * M)) (lgRoot M).l 0 with h | ⟨c, hc, h⟩
  · omega
  · obtain ⟨i, hi, rfl⟩ := lgL_mem M hc
    rw [Int.toNat_natCast] at h
    have := hret (2 * M) i hi
    omega
theorem lgT_may (hM : M ≤ 8001) (hv : ∀ i, i < M → 0 ≤ v i ∧ v i ≤ 9223372036854775807) : mayN (lgT v M) = true :=
  may_of (lgT_good v M) (by rw [lgT_len]; omega) (lgT_asks v M hM hv) (lgT_deep v M)
theorem lgT_ok (hM : M ≤ 8001) (hv : ∀ i, i < M → 0 ≤ v i ∧ v i ≤ 9223372036854775807) : ∀ x ∈ lgT v M, NdOk x := by
  intro x hx
  obtain ⟨j, hj, rfl⟩ := List.getElem_of_mem hx
  have e : (lgT v M)[j] = (lgT v M).getD j nd0 := by rw [List.getD_eq_getElem?_getD, List.getElem?_eq_getElem hj]; rfl
  rw [e]
  rw [lgT_len] at hj
  rcases lgT_any M hj with rfl | ⟨i, hi, rfl⟩ | ⟨i, hi, rfl⟩
  · rw [lgT_zero]
    refine ndOk_mk (by decide) (by decide) (by decide) (fun c hc => ?_)
    obtain ⟨i, hi, rfl⟩ := lgL_mem M hc
    omega
  · rw [lgT_ret v M hi]
    refine ndOk_mk (by decide) (by decide) (by decide) (fun c hc => ?_)
    have : c = ((2 * i + 2 : Nat) : Int) := List.mem_singleton.1 hc
    omega
  · rw [lgT_int v M hi]
    have := hv i hi
    refine ndOk_mk (by decide) ?_ this.2 (fun c hc => by cases hc)
    show -9223372036854775808 ≤ v i
    omega
/-- A return's line. -/
def lgS (v : Int) : ByteArray := blB 1 ++ (⟨#[114, 101, 116, 117, 114, 110, 32]⟩ ++ ⟨(Lib.itoa v).toArray⟩ ++ ⟨#[59]⟩)
theorem lgS_size (v : Int) : (lgS v).size = 12 + (Lib.itoa v).length := by
  unfold lgS blB blB
  simp only [ByteArray.size_append]
  show 0 + 4 + (7 + (Lib.itoa v).toArray.size + 1) = _
  rw [List.size_toArray]; omega
theorem lgT_stmt {i : Nat} (hi : i < M) : St5 (lgT v M) (2 * i + 1) 1 (blB 1) = [lgS (v i)] := by
  have hd := good_down (lgT_good v M)
  have hl := lgT_len v M
  rw [St_eq hd (by omega), lgT_ret v M hi]
  show [blB 1 ++ (⟨#[114, 101, 116, 117, 114, 110, 32]⟩ ++ Ex (lgT v M) (2 * i + 2) 1 ++ ⟨#[59]⟩)] = _
  rw [Ex_eq hd (by omega), lgT_int v M hi]
  rfl
theorem lgT_lines : linesN (lgT v M) = [ByteArray.empty ++ ⟨#[123]⟩] ++ catK (fun i => if i < M then [lgS (v i)] else []) M ++ [blB 0 ++ ⟨#[125]⟩] := by
  have hd := good_down (lgT_good v M)
  have hl := lgT_len v M
  have h1 : linesN (lgT v M) = St5 (lgT v M) 0 0 ByteArray.empty := rfl
  rw [h1, St_eq hd (by omega), lgT_zero]
  show [ByteArray.empty ++ ⟨#[123]⟩] ++ catK (fun i => if i < (lgL M).length then St5 (lgT v M) (((lgL M).getD i 0).toNat) 1 (blB 1) else []) (lgL M).length ++ [blB 0 ++ ⟨#[125]⟩] = _
  rw [lgL_len]
  congr 3
  funext i
  by_cases hi : i < M
  · rw [if_pos hi, if_pos hi, lgL_get M i hi, Int.toNat_natCast, lgT_stmt v M hi]
  · rw [if_neg hi, if_neg hi]
theorem lgC (k : Nat) (hk : k ≤ M) : (catK (fun i => if i < M then [lgS (v i)] else []) k).length = k ∧ szL (catK (fun i => if i < M then [lgS (v i)] else []) k) = ((List.range k).map fun i => 13 + (Lib.itoa (v i)).length).sum := by
  induction k with
  | zero => exact ⟨rfl, rfl⟩
  | succ k ih =>
    obtain ⟨h1, h2⟩ := ih (by omega)
    unfold catK
    rw [if_pos (by omega), List.length_append, szL_app, h1, h2, szL_one, lgS_size, List.range_succ, List.map_append, List.sum_append]
    refine ⟨rfl, ?_⟩
    simp only [List.map_cons, List.map_nil, List.sum_cons, List.sum_nil]
    omega
theorem lgT_len_lines : (linesN (lgT v M)).length = M + 2 ∧ szL (linesN (lgT v M)) = 4 + ((List.range M).map fun i => 13 + (Lib.itoa (v i)).length).sum := by
  obtain ⟨h1, h2⟩ := lgC v M M (Nat.le_refl _)
  rw [lgT_lines, List.length_append, List.length_append, szL_app, szL_app, h1, h2, szL_one, szL_one]
  refine ⟨by simp; omega, ?_⟩
  show 0 + 1 + 1 + _ + (0 + 1 + 1) = _
  omega
end
/-- A number of so many digits. -/
def tenI (k : Nat) : Int := ((10 ^ (k - 1) : Nat) : Int)
theorem tenI_len (k : Nat) (h1 : 1 ≤ k) (h2 : k ≤ 18) : (Lib.itoa (tenI k)).length = k := by
  obtain rfl | rfl | rfl | rfl | rfl | rfl | rfl | rfl | rfl | rfl | rfl | rfl | rfl | rfl | rfl | rfl | rfl | rfl : k = 1 ∨ k = 2 ∨ k = 3 ∨ k = 4 ∨ k = 5 ∨ k = 6 ∨ k = 7 ∨ k = 8 ∨ k = 9 ∨ k = 10 ∨ k = 11 ∨ k = 12 ∨ k = 13 ∨ k = 14 ∨ k = 15 ∨ k = 16 ∨ k = 17 ∨ k = 18 := by omega
  all_goals decide +kernel
theorem tenI_bound (k : Nat) (h2 : k ≤ 18) : 0 ≤ tenI k ∧ tenI k ≤ 9223372036854775807 := by
  unfold tenI
  have : 10 ^ (k - 1) ≤ 10 ^ 17 := Nat.pow_le_pow_right (by decide) (by omega)
  have h3 : (10 : Nat) ^ 17 = 100000000000000000 := by decide
  obtain ⟨p, hp⟩ : ∃ p, p = 10 ^ (k - 1) := ⟨_, rfl⟩
  rw [← hp] at this ⊢
  omega
/-- The numbers. -/
def lgF (n k more : Nat) (i : Nat) : Int := if i = n then tenI more else tenI k
theorem lgF_sum (n k more : Nat) (hk1 : 1 ≤ k) (hk : k ≤ 18) (hm1 : 1 ≤ more) (hm : more ≤ 18) : ((List.range (n + 1)).map fun i => 13 + (Lib.itoa (lgF n k more i)).length).sum = n * (13 + k) + (13 + more) := by
  rw [List.range_succ, List.map_append, List.sum_append]
  have h1 : ∀ m, m ≤ n → ((List.range m).map fun i => 13 + (Lib.itoa (lgF n k more i)).length).sum = m * (13 + k) := by
    intro m
    induction m with
    | zero => intro _; simp
    | succ m ih =>
      intro h
      rw [List.range_succ, List.map_append, List.sum_append, ih (by omega)]
      simp only [List.map_cons, List.map_nil, List.sum_cons, List.sum_nil, lgF]
      rw [if_neg (by omega), tenI_len k hk1 hk, Nat.add_mul, Nat.one_mul]
      omega
  rw [h1 n (Nat.le_refl _)]
  simp only [List.map_cons, List.map_nil, List.sum_cons, List.sum_nil, lgF, if_true]
  rw [tenI_len more hm1 hm, Nat.add_zero]
theorem long_law (n k more : Nat) (hn : n ≤ 8000) (hk1 : 1 ≤ k) (hk : k ≤ 18) (hm1 : 1 ≤ more) (hm : more ≤ 18) :
    mayN (lgT (lgF n k more) (n + 1)) = true ∧ (∀ x ∈ lgT (lgF n k more) (n + 1), NdOk x) ∧
    linesP (lgT (lgF n k more) (n + 1)) = (if 65536 < 4 + n * (13 + k) + 13 + more then ([], 3) else (linesN (lgT (lgF n k more) (n + 1)), 0)) ∧ (linesN (lgT (lgF n k more) (n + 1))).length = n + 3 := by
  have hv : ∀ i, i < n + 1 → 0 ≤ lgF n k more i ∧ lgF n k more i ≤ 9223372036854775807 := by
    intro i _
    unfold lgF
    split
    · exact tenI_bound more hm
    · exact tenI_bound k hk
  have h1 := lgT_may (lgF n k more) (n + 1) (by omega) hv
  obtain ⟨h2, h3⟩ := lgT_len_lines (lgF n k more) (n + 1)
  rw [lgF_sum n k more hk1 hk hm1 hm] at h3
  refine ⟨h1, lgT_ok _ _ (by omega) hv, ?_, h2⟩
  unfold linesP
  rw [h1, lgT_zero, h3]
  have : rootOk (lgRoot (n + 1)).k = true := rfl
  rw [this]
  rw [show 4 + (n * (13 + k) + (13 + more)) = 4 + n * (13 + k) + 13 + more by omega]
  rfl
end Go.Proofs.YtoophdcagpfmpaaGreatDoor

namespace Go.Proofs.YtoophdcagpfmpaaGreatDoor
open Go.RowKit

theorem results_cellT {fn : Func} {t : Tmp} (h : fn.results = #[.cell t 24]) (tmps : Array Value) {w : World} {X : Nat} {v : Value} (ha : tmps[t]?.getD undef = .pointer (some ⟨X, 0, none⟩))
    (hc : w.cell? ⟨X, 0, none⟩ = some v) : (results fn tmps).run Tryz.prog w = .ok (.agg #[v]) w := by
  simp [results, h, ha, go_sem, hc]
theorem node_one {w : World} {g k : Nat} (h : w.heap[g]? = some (.cells #[.int .u8 (k : Nat), .int .i64 0, .int .i64 0, .string ⟨#[]⟩, .slice none 0 0] 44 (0, 0))) : NodesAt w (some ⟨g, 0, none⟩) [⟨k, 0, 0, ⟨#[]⟩, []⟩] := by
  intro i hi
  obtain rfl : i = 0 := by simp at hi; omega
  exact ⟨g, 0, rfl, blk_cell h 0, blk_cell h 1, blk_cell h 2, blk_cell h 3, none, 0, blk_cell h 4, fun j hj => by simp at hj, Nat.le_refl _, by unfold maxLen; omega⟩
set_option maxRecDepth 100000 in
set_option maxHeartbeats 4000000 in
theorem one5_any (k : Nat) (w : World) :
    Calls Tryz.prog 24 #[.agg #[.int .u8 k, .int .i64 0, .int .i64 0, .string ⟨#[]⟩, .slice none 0 0]] w fun e w' => ∃ g, e = .returned (.agg #[.slice (some ⟨g, 0, none⟩) 1 1]) ∧ NodesAt w' (some ⟨g, 0, none⟩) [⟨k, 0, 0, ⟨#[]⟩, []⟩] ∧ KB F0 w w' := by
  obtain ⟨w0, rfl⟩ : ∃ w0, w0 = w := ⟨_, rfl⟩
  go_enter Tryz.func24, Tryz.ntmps24
  go_wp2_with fail
  have h0 := alloc_new ((w0.alloc (.cells #[.int .u8 (k : Nat), .int .i64 0, .int .i64 0, .string ⟨#[]⟩, .slice none 0 0] 44)).alloc (.cells #[.slice (some ⟨w0.heap.size + 1 + 1, 0, none⟩) 1 1] 24)) (.cells #[.int .u8 (k : Nat), .int .i64 0, .int .i64 0, .string ⟨#[]⟩, .slice none 0 0] 44)
  have h1 := ((KB.refl F0 ((w0.alloc (.cells #[.int .u8 (k : Nat), .int .i64 0, .int .i64 0, .string ⟨#[]⟩, .slice none 0 0] 44)).alloc (.cells #[.slice (some ⟨w0.heap.size + 1 + 1, 0, none⟩) 1 1] 24))).alloc (.cells #[.int .u8 (k : Nat), .int .i64 0, .int .i64 0, .string ⟨#[]⟩, .slice none 0 0] 44)).heap (fun x => x) (alloc_new _ _)
  have s1 : (w0.alloc (.cells #[.int .u8 (k : Nat), .int .i64 0, .int .i64 0, .string ⟨#[]⟩, .slice none 0 0] 44)).heap.size = w0.heap.size + 1 := by simp
  have s2 : ((w0.alloc (.cells #[.int .u8 (k : Nat), .int .i64 0, .int .i64 0, .string ⟨#[]⟩, .slice none 0 0] 44)).alloc (.cells #[.slice (some ⟨w0.heap.size + 1 + 1, 0, none⟩) 1 1] 24)).heap.size = w0.heap.size + 1 + 1 := by simp
  rw [s1] at h1
  rw [s2] at h0
  exact bodyPost_ret (results_cellT rfl _ rfl (blk_cell h1 0)) rfl ⟨_, rfl, node_one h0, (((KB.refl _ _).alloc _).alloc _).alloc _⟩
end Go.Proofs.YtoophdcagpfmpaaGreatDoor

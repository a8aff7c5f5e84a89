/- The text of a part stands within the text of the whole: plainly. -/
import Derived.Test.YtoophdcagpfmpaaGreatDoorMg45
import Derived.Test.YtoophdcagpfmpaaGreatDoorPrC
import Derived.Test.YtoophdcagpfmpaaGreatDoorPrR
namespace Go.Proofs.YtoophdcagpfmpaaGreatDoor
open Go.RowKit

theorem jnK_stands (sep : ByteArray) (g : Nat → ByteArray) (k i : Nat) (hi : i < k) : Stands (g i) (jnK sep g k) := by
  induction k with
  | zero => omega
  | succ k ih =>
    unfold jnK
    by_cases h0 : k = 0
    · rw [if_pos h0]
      obtain rfl : i = 0 := by omega
      exact Stands.refl _
    · rw [if_neg h0]
      rcases Nat.lt_or_eq_of_le (Nat.lt_succ_iff.1 hi) with h | rfl
      · exact ((ih h).left _).left _
      · exact (Stands.refl _).right _
theorem ampB_stands (life : ByteArray) (m : Bool) (s : ByteArray) : Stands s (ampB life m s) := by
  unfold ampB
  split
  · split
    · exact (Stands.refl _).right _
    · split
      · exact (Stands.refl _).right _
      · exact (Stands.refl _).right _
  · split
    · exact (Stands.refl _).right _
    · exact (Stands.refl _).right _
theorem wrapN_stands (x : Nd) (least : Nat) (b : ByteArray) : Stands b (wrapN x least b) := by
  unfold wrapN
  split
  · exact ((Stands.refl _).right _).left _
  · exact Stands.refl _
theorem lvP_pos (k : Nat) (s : ByteArray) : 1 ≤ lvP k s := by
  unfold lvP
  repeat' split
  all_goals omega
theorem wrapN_one (x : Nd) (b : ByteArray) : wrapN x 1 b = b := by
  unfold wrapN
  have := lvP_pos x.k x.s
  rw [if_neg (by omega)]

theorem getD_add (L : List Int) {i : Nat} (h : i < L.length) (d : Int) : (L.map (· + d)).getD i 0 = L.getD i 0 + d := by
  rw [List.getD_eq_getElem?_getD, List.getElem?_map, List.getD_eq_getElem?_getD, List.getElem?_eq_getElem h]
  rfl
/-! The part's text is the node's. -/
section
variable {ts : List Nd} (h : TOk ts) {n : Nat} (hn : n < ts.length)
theorem bareN_sh (d : Int) (x : Nd) (ch : Nat → Nat → ByteArray) (ini : Nat → ByteArray) : bareN (shN d x) ch ini = bareN x ch ini := by
  obtain ⟨k, at_, z, s, l⟩ := x
  unfold bareN shN
  simp only [List.length_map]
theorem wrapN_sh (d : Int) (x : Nd) (least : Nat) (b : ByteArray) : wrapN (shN d x) least b = wrapN x least b := rfl
include h hn
theorem sub_kid {j i : Nat} (hj : j < En ts n - n) (hi : i < (ts.getD (n + j) nd0).l.length) :
    kid ((subN ts n).getD j nd0) i = kid (ts.getD (n + j) nd0) i - n ∧ n + j < kid (ts.getD (n + j) nd0) i ∧ kid (ts.getD (n + j) nd0) i < En ts n := by
  obtain ⟨h1, h2, h3⟩ := En_spec h.good hn
  have hnj : n + j < ts.length := by omega
  obtain ⟨e, he, hle⟩ := wt_below ts.length n _ hn (by omega) h1 (n + j) (by omega) (by omega)
  obtain ⟨q, k', a1, a2, a3, a4, a5, a6⟩ := kid_mem hnj he (getD_memI hi)
  have hs := sub_kids h.good hn hj
  have hs' : ((subN ts n).getD j nd0).l = (ts.getD (n + j) nd0).l.map (· + -(n : Int)) := hs
  have e1 : ((subN ts n).getD j nd0).l.getD i 0 = (ts.getD (n + j) nd0).l.getD i 0 + -(n : Int) := by
    rw [hs']
    exact getD_add _ hi _
  unfold kid
  rw [e1, a1]
  refine ⟨by omega, by omega, by omega⟩
theorem ex_sub (d : Nat) : ∀ j least, j < En ts n - n → En ts n ≤ n + j + d → Ex (subN ts n) j least = Ex ts (n + j) least := by
  obtain ⟨h1, h2, h3⟩ := En_spec h.good hn
  have hl := subN_len h.good hn
  have hg := good_sub h.good hn
  induction d with
  | zero => intro j least h4 h5; omega
  | succ d ih =>
    intro j least h4 h5
    have hx := subN_get h.good hn h4
    have hch : ∀ j', j ≤ j' → j' < En ts n - n → chE (Ex (subN ts n)) ((subN ts n).getD j' nd0) = chE (Ex ts) (ts.getD (n + j') nd0) := by
      intro j' hj1 hj2
      funext i l
      have hx' := subN_get h.good hn hj2
      have hlen : ((subN ts n).getD j' nd0).l.length = (ts.getD (n + j') nd0).l.length := by rw [hx']; simp [shN]
      unfold chE
      by_cases hi : i < (ts.getD (n + j') nd0).l.length
      · obtain ⟨k1, k2, k3⟩ := sub_kid h hn hj2 hi
        rw [if_pos hi, if_pos (by omega), k1, ih _ l (by omega) (by omega)]
        congr 1
        omega
      · rw [if_neg hi, if_neg (by omega)]
    have hini : iniE (subN ts n) (Ex (subN ts n)) ((subN ts n).getD j nd0) = iniE ts (Ex ts) (ts.getD (n + j) nd0) := by
      funext i
      have hlen : ((subN ts n).getD j nd0).l.length = (ts.getD (n + j) nd0).l.length := by rw [hx]; simp [shN]
      unfold iniE
      by_cases hi : i < (ts.getD (n + j) nd0).l.length
      · obtain ⟨k1, k2, k3⟩ := sub_kid h hn h4 hi
        rw [if_pos hi, if_pos (by omega), k1, hch _ (by omega) (by omega)]
        have hs := subN_get h.good hn (i := kid (ts.getD (n + j) nd0) i - n) (by omega)
        rw [hs, show n + (kid (ts.getD (n + j) nd0) i - n) = kid (ts.getD (n + j) nd0) i by omega]
        rfl
      · rw [if_neg hi, if_neg (by omega)]
    rw [Ex_eq (good_down hg) (by omega), Ex_eq h.down (by omega), hch j (Nat.le_refl _) h4, hini, hx, bareN_sh, wrapN_sh]
end

/-! A child's text within its parent's. -/
section
variable {ts : List Nd} (h : TOk ts)
include h
theorem no_kids {n : Nat} (hn : n < ts.length) (hk : (ts.getD n nd0).k = 24 ∨ (ts.getD n nd0).k = 25 ∨ (ts.getD n nd0).k = 26 ∨ (ts.getD n nd0).k = 37) : (ts.getD n nd0).l.length = 0 := by
  have q := (ask_k (h.ask hn)).1
  have : len0B ((ts.getD n nd0).l.map (kindOf ts)) = true := by
    rcases hk with e | e | e | e <;> (rw [e] at q; exact q)
  simpa [len0B] using this
theorem bare_stands {n : Nat} (hn : n < ts.length) (he : isExprB (ts.getD n nd0).k = true) {i : Nat} (hi : i < (ts.getD n nd0).l.length) (ch : Nat → Nat → ByteArray) (ini : Nat → ByteArray) :
    ((ts.getD n nd0).k ≠ 34 → ∃ l, Stands (ch i l) (bareN (ts.getD n nd0) ch ini)) ∧ ((ts.getD n nd0).k = 34 → Stands (ini i) (bareN (ts.getD n nd0) ch ini)) := by
  have n0 := no_kids h hn
  have o1 := h.ex1 hn
  have o2 := h.ex2 hn
  generalize ts.getD n nd0 = x at he hi n0 o1 o2 ⊢
  obtain ⟨k, at_, z, s, l⟩ := x
  simp only at he hi n0 o1 o2 ⊢
  unfold isExprB at he
  simp only [Bool.and_eq_true, decide_eq_true_eq, Bool.not_eq_true', decide_eq_false_iff_not] at he
  obtain ⟨⟨ha, hb⟩, hc⟩ := he
  obtain rfl | rfl | rfl | rfl | rfl | rfl | rfl | rfl | rfl | rfl | rfl | rfl | rfl : k = 24 ∨ k = 25 ∨ k = 26 ∨ k = 27 ∨ k = 28 ∨ k = 29 ∨ k = 30 ∨ k = 31 ∨ k = 32 ∨ k = 33 ∨ k = 34 ∨ k = 36 ∨ k = 37 := by omega
  · have := n0 (by omega); omega
  · have := n0 (by omega); omega
  · have := n0 (by omega); omega
  · have := (o1 (by omega)).1
    obtain rfl : i = 0 := by omega
    exact ⟨fun _ => ⟨7, ((Stands.refl _).left _).left _⟩, fun e => by omega⟩
  · have := (o1 (by omega)).1
    obtain rfl : i = 0 := by omega
    exact ⟨fun _ => ⟨6, (Stands.refl _).right _⟩, fun e => by omega⟩
  · have := (o1 (by omega)).1
    obtain rfl : i = 0 := by omega
    exact ⟨fun _ => ⟨6, ampB_stands _ _ _⟩, fun e => by omega⟩
  · have := (o1 (by omega)).1
    obtain rfl : i = 0 := by omega
    exact ⟨fun _ => ⟨6, (Stands.refl _).right _⟩, fun e => by omega⟩
  · have := (o1 (by omega)).1
    obtain rfl : i = 0 := by omega
    exact ⟨fun _ => ⟨6, (Stands.refl _).right _⟩, fun e => by omega⟩
  · have := (o2 (by omega)).1
    refine ⟨fun _ => ?_, fun e => by omega⟩
    obtain rfl | rfl : i = 0 ∨ i = 1 := by omega
    · exact ⟨_, ((((Stands.refl _).left _).left _).left _).left _⟩
    · exact ⟨_, (Stands.refl _).right _⟩
  · exact ⟨fun _ => ⟨1, (((jnK_stands _ (fun i => ch i 1) l.length i hi)).right _).left _⟩, fun e => by omega⟩
  · exact ⟨fun e => absurd rfl e, fun _ => ((jnK_stands _ ini l.length i hi).right _).left _⟩
  · have := (o1 (by omega)).1
    obtain rfl : i = 0 := by omega
    exact ⟨fun _ => ⟨1, ((Stands.refl _).right _).left _⟩, fun e => by omega⟩
  · have := n0 (by omega); omega
/-- What an expression's children are. -/
theorem kid_kind {n : Nat} (hn : n < ts.length) (he : isExprB (ts.getD n nd0).k = true ∨ (ts.getD n nd0).k = 35) {i : Nat} (hi : i < (ts.getD n nd0).l.length) :
    if (ts.getD n nd0).k = 34 then (ts.getD (kid (ts.getD n nd0) i) nd0).k = 35 else isExprB (ts.getD (kid (ts.getD n nd0) i) nd0).k = true := by
  have n0 := no_kids h hn
  have o1 := h.ex1 hn
  have o2 := h.ex2 hn
  have oc := h.call hn
  have om := h.make hn
  generalize hkk : (ts.getD n nd0).k = k at he n0 o1 o2 oc om ⊢
  have hrange : k = 24 ∨ k = 25 ∨ k = 26 ∨ k = 27 ∨ k = 28 ∨ k = 29 ∨ k = 30 ∨ k = 31 ∨ k = 32 ∨ k = 33 ∨ k = 34 ∨ k = 35 ∨ k = 36 ∨ k = 37 := by
    rcases he with he | he
    · unfold isExprB at he
      simp only [Bool.and_eq_true, decide_eq_true_eq, Bool.not_eq_true', decide_eq_false_iff_not] at he
      omega
    · omega
  have one : (k = 27 ∨ k = 28 ∨ k = 29 ∨ k = 30 ∨ k = 31 ∨ k = 36 ∨ k = 21 ∨ k = 22 ∨ k = 35) → isExprB (ts.getD (kid (ts.getD n nd0) i) nd0).k = true := fun e => by
    have := o1 e
    obtain rfl : i = 0 := by omega
    exact this.2
  by_cases h34 : k = 34
  · rw [if_pos h34]; exact (om h34).2 i hi
  rw [if_neg h34]
  by_cases h32 : k = 32
  · have := o2 (Or.inl h32)
    obtain rfl | rfl : i = 0 ∨ i = 1 := by omega
    · exact this.2.1
    · exact this.2.2
  by_cases h33 : k = 33
  · exact (oc h33).2 i hi
  by_cases hz : k = 24 ∨ k = 25 ∨ k = 26 ∨ k = 37
  · have := n0 hz; omega
  exact one (by omega)
theorem mem_kid {n c : Nat} (hn : n < ts.length) (hc : (c : Int) ∈ kids ts n) : ∃ i, i < (ts.getD n nd0).l.length ∧ kid (ts.getD n nd0) i = c := by
  have _ := h
  obtain ⟨i, hi, e⟩ := List.getElem_of_mem hc
  refine ⟨i, hi, ?_⟩
  unfold kid
  rw [List.getD_eq_getElem?_getD, List.getElem?_eq_getElem hi]
  show (_ : Int).toNat = c
  rw [Option.getD_some, e]; rfl
theorem kinds_below (hr : isExprB (ts.getD 0 nd0).k = true) (m : Nat) : ∀ j, j < m → j < ts.length → isExprB (ts.getD j nd0).k = true ∨ (ts.getD j nd0).k = 35 := by
  induction m with
  | zero => intro j hj; omega
  | succ m ih =>
    intro j hj hjt
    by_cases h0 : j = 0
    · subst h0; exact Or.inl hr
    obtain ⟨p, hp, hmem⟩ := good_parent h.good hjt (by omega)
    obtain ⟨i, hi, he⟩ := mem_kid h (show p < ts.length by omega) hmem
    have hpk := ih p (by omega) (by omega)
    have := kid_kind h (show p < ts.length by omega) hpk hi
    rw [he] at this
    split at this
    · exact Or.inr this
    · exact Or.inl this
theorem ex_stands (d : Nat) : ∀ n least, n < ts.length → ts.length ≤ n + d → isExprB (ts.getD n nd0).k = true → ∀ j, n ≤ j → j < En ts n → isExprB (ts.getD j nd0).k = true → Stands (Ex ts j 1) (Ex ts n least) := by
  induction d with
  | zero => intro n least h1 h2; omega
  | succ d ih =>
    intro n least hn hd hek j h1 h2 hj
    obtain ⟨e1, e2, e3⟩ := En_spec h.good hn
    have hun : Stands (Ex ts n 1) (Ex ts n least) := by
      rw [Ex_eq h.down hn, Ex_eq h.down hn, wrapN_one]
      exact wrapN_stands _ _ _
    rcases Nat.lt_or_eq_of_le h1 with h1 | rfl
    case inr => exact hun
    refine Stands.trans ?_ hun
    rw [Ex_eq h.down hn 1, wrapN_one]
    obtain ⟨q, k', f1, f2, f3, f4, f5, f6⟩ := kid_cover hn e1 h1 h2
    obtain ⟨i, hi, he⟩ := mem_kid h hn f1
    have hEq := En_eq f3
    have hkk := kid_kind h hn (Or.inl hek) hi
    have hb := bare_stands h hn hek hi (chE (Ex ts) (ts.getD n nd0)) (iniE ts (Ex ts) (ts.getD n nd0))
    by_cases h34 : (ts.getD n nd0).k = 34
    · rw [if_pos h34, he] at hkk
      refine Stands.trans ?_ (hb.2 h34)
      have hqj : q < j := by
        rcases Nat.lt_or_eq_of_le f5 with f5 | rfl
        · exact f5
        · rw [hkk] at hj; cases hj
      have o1 := h.ex1 f2 (by omega)
      obtain ⟨r, k2, g1, g2, g3, g4, g5, g6⟩ := kid_cover f2 f3 hqj f6
      obtain ⟨i2, hi2, he2⟩ := mem_kid h f2 g1
      obtain rfl : i2 = 0 := by omega
      have hr := ih r 1 g2 (by omega) (by rw [← he2]; exact o1.2) j g5 (by rw [En_eq g3]; exact g6) hj
      unfold iniE chE
      rw [if_pos hi, he, if_pos hi2, he2]
      exact hr.right _
    · rw [if_neg h34, he] at hkk
      obtain ⟨l, hl⟩ := hb.1 h34
      refine Stands.trans ?_ hl
      have hr := ih q l f2 (by omega) hkk j f5 (by rw [hEq]; exact f6) hj
      unfold chE
      rw [if_pos hi, he]
      exact hr
end
/-- What print.Expr answers of a node's part. -/
theorem part_law {ts : List Nd} (hm : mayN ts = true) (hr : isExprB (ts.getD 0 nd0).k = true) (hs : (Ex ts 0 1).size ≤ 65536) {i : Nat} (hi : i < ts.length) :
    (isExprB (ts.getD i nd0).k = true ∧ exprP (subN ts i) = (Ex ts i 1, 0) ∧ Stands (Ex ts i 1) (Ex ts 0 1)) ∨ ((ts.getD i nd0).k = 35 ∧ exprP (subN ts i) = (ByteArray.empty, 2)) := by
  have h := tok_of hm
  have hms := may_sub hm hi
  obtain ⟨e1, e2, e3⟩ := En_spec h.good hi
  have h0 := subN_get h.good hi (i := 0) (by omega)
  have hk0 : ((subN ts i).getD 0 nd0).k = (ts.getD i nd0).k := by rw [h0]; rfl
  rcases kinds_below h hr (i + 1) i (by omega) hi with hk | hk
  · have hst := ex_stands h ts.length 0 1 h.good.1 (by omega) hr i (Nat.zero_le _) (by rw [En_eq h.good.2]; exact hi) hk
    refine Or.inl ⟨hk, ?_, hst⟩
    have hx := ex_sub h hi ts.length 0 1 (by omega) (by omega)
    unfold exprP
    rw [hms, hk0, hk, hx, Nat.add_zero]
    have := hst.size
    show longP (Ex ts i 1) = _
    unfold longP
    exact if_neg (show ¬ 65536 < (Ex ts i 1).size by omega)
  · refine Or.inr ⟨hk, ?_⟩
    unfold exprP
    rw [hms, hk0, hk]
    rfl
end Go.Proofs.YtoophdcagpfmpaaGreatDoor

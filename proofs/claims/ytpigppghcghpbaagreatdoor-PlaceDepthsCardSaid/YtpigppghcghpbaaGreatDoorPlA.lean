/- Places, plain: prefixes and their order. -/
import Derived.Test.YtpigppghcghpbaaGreatDoorLib
namespace Go.Proofs.YtpigppghcghpbaaGreatDoor

structure Pl where
  loc : Int
  path : List Int
/-- One place is a prefix of another one. -/
def preB (p q : Pl) : Bool := decide (p.loc = q.loc) && (decide (p.path.length ≤ q.path.length) && decide (q.path.take p.path.length = p.path))
def cmpI (x y : Int) : Int := if x < y then -1 else if y < x then 1 else 0
/-- Lists compared, number by number. -/
def cmpL : List Int → List Int → Int
  | [], [] => 0
  | [], _ :: _ => -1
  | _ :: _, [] => 1
  | x :: a, y :: b => if cmpI x y = 0 then cmpL a b else cmpI x y
def ordP (p q : Pl) : Int := if cmpI p.loc q.loc = 0 then cmpL p.path q.path else cmpI p.loc q.loc
theorem cmpI_zero {x y : Int} : cmpI x y = 0 ↔ x = y := by
  unfold cmpI
  constructor
  · intro h
    split at h
    · omega
    · split at h <;> omega
  · rintro rfl
    rw [if_neg (by omega), if_neg (by omega)]
theorem cmpI_neg (x y : Int) : cmpI x y = - cmpI y x := by
  unfold cmpI
  split
  · split
    · omega
    · rfl
  · split
    · rfl
    · rfl
theorem cmpI_cases (x y : Int) : (x < y ∧ cmpI x y = -1) ∨ (x = y ∧ cmpI x y = 0) ∨ (y < x ∧ cmpI x y = 1) := by
  unfold cmpI
  rcases Int.lt_trichotomy x y with h | h | h
  · exact Or.inl ⟨h, if_pos h⟩
  · exact Or.inr (Or.inl ⟨h, by rw [if_neg (by omega), if_neg (by omega)]⟩)
  · exact Or.inr (Or.inr ⟨h, by rw [if_neg (by omega), if_pos h]⟩)
theorem cmpL_zero : ∀ {a b : List Int}, cmpL a b = 0 ↔ a = b := by
  intro a
  induction a with
  | nil => intro b; cases b <;> simp [cmpL]
  | cons x a ih =>
    intro b
    cases b with
    | nil => simp [cmpL]
    | cons y b =>
      unfold cmpL
      by_cases h : cmpI x y = 0
      · rw [if_pos h, ih, cmpI_zero.1 h]; simp
      · rw [if_neg h]
        constructor
        · intro h2; exact absurd h2 h
        · intro h2; exact absurd (cmpI_zero.2 (List.cons.inj h2).1) h
theorem cmpL_neg : ∀ (a b : List Int), cmpL a b = - cmpL b a := by
  intro a
  induction a with
  | nil => intro b; cases b <;> simp [cmpL]
  | cons x a ih =>
    intro b
    cases b with
    | nil => simp [cmpL]
    | cons y b =>
      unfold cmpL
      have hn := cmpI_neg x y
      by_cases h : cmpI x y = 0
      · rw [if_pos h, if_pos (by omega), ih]
      · rw [if_neg h, if_neg (by omega)]; exact hn
theorem cmpL_range : ∀ (a b : List Int), cmpL a b = -1 ∨ cmpL a b = 0 ∨ cmpL a b = 1 := by
  intro a
  induction a with
  | nil => intro b; cases b <;> simp [cmpL]
  | cons x a ih =>
    intro b
    cases b with
    | nil => simp [cmpL]
    | cons y b =>
      unfold cmpL
      by_cases h : cmpI x y = 0
      · rw [if_pos h]; exact ih b
      · rw [if_neg h]; have := cmpI_cases x y; omega
theorem cmpL_trans : ∀ (a b c : List Int), cmpL a b ≤ 0 → cmpL b c ≤ 0 → cmpL a c ≤ 0 ∧ (cmpL a c = 0 → cmpL a b = 0 ∧ cmpL b c = 0) := by
  intro a
  induction a with
  | nil =>
    intro b c h1 h2
    cases c with
    | nil => cases b with
      | nil => simp [cmpL]
      | cons y b => simp [cmpL] at h2
    | cons z c => simp [cmpL]
  | cons x a ih =>
    intro b c h1 h2
    cases b with
    | nil => simp [cmpL] at h1
    | cons y b =>
      cases c with
      | nil => simp [cmpL] at h2
      | cons z c =>
        unfold cmpL at h1 h2 ⊢
        have c1 := cmpI_cases x y
        have c2 := cmpI_cases y z
        have c3 := cmpI_cases x z
        by_cases e1 : cmpI x y = 0
        · rw [if_pos e1] at h1 ⊢
          by_cases e2 : cmpI y z = 0
          · rw [if_pos e2] at h2 ⊢
            rw [if_pos (by omega)]
            exact ih b c h1 h2
          · rw [if_neg e2] at h2 ⊢
            rw [if_neg (by omega)]
            omega
        · rw [if_neg e1] at h1 ⊢
          by_cases e2 : cmpI y z = 0
          · rw [if_pos e2] at h2 ⊢
            rw [if_neg (by omega)]
            omega
          · rw [if_neg e2] at h2 ⊢
            rw [if_neg (by omega)]
            omega
theorem cmpL_take : ∀ (b : List Int) (n : Nat), cmpL (b.take n) b ≤ 0 := by
  intro b
  induction b with
  | nil => intro n; simp [cmpL]
  | cons y b ih =>
    intro n
    cases n with
    | zero => simp [cmpL]
    | succ n =>
      rw [List.take_succ_cons]
      unfold cmpL
      rw [if_pos (cmpI_zero.2 rfl)]
      exact ih n
theorem cmpL_step : ∀ (b : List Int) (n : Nat), n < b.length → cmpL (b.take n) (b.take (n + 1)) = -1 := by
  intro b
  induction b with
  | nil => intro n h; exact absurd h (Nat.not_lt_zero n)
  | cons y b ih =>
    intro n h
    cases n with
    | zero => simp [cmpL]
    | succ n =>
      rw [List.take_succ_cons, List.take_succ_cons]
      unfold cmpL
      rw [if_pos (cmpI_zero.2 rfl)]
      exact ih n (by simpa using h)
theorem preB_iff {p q : Pl} : preB p q = true ↔ p.loc = q.loc ∧ ∃ n, n ≤ q.path.length ∧ p.path = q.path.take n := by
  unfold preB
  simp only [Bool.and_eq_true, decide_eq_true_eq]
  constructor
  · rintro ⟨h1, h2, h3⟩
    exact ⟨h1, p.path.length, h2, h3.symm⟩
  · rintro ⟨h1, n, h2, h3⟩
    have : p.path.length = n := by rw [h3, List.length_take]; omega
    exact ⟨h1, by omega, by rw [this]; exact h3.symm⟩
theorem preB_refl (p : Pl) : preB p p = true := preB_iff.2 ⟨rfl, p.path.length, Nat.le_refl _, (List.take_length).symm⟩
theorem preB_trans {p q r : Pl} (h : preB p q = true) (k : preB q r = true) : preB p r = true := by
  obtain ⟨h1, n, h2, h3⟩ := preB_iff.1 h
  obtain ⟨k1, m, k2, k3⟩ := preB_iff.1 k
  have hm : q.path.length = m := by rw [k3, List.length_take]; omega
  exact preB_iff.2 ⟨h1.trans k1, n, by omega, by rw [h3, k3, List.take_take]; congr 1; omega⟩
theorem preB_both {p q r : Pl} (h : preB p r = true) (k : preB q r = true) : preB p q = true ∨ preB q p = true := by
  obtain ⟨h1, n, h2, h3⟩ := preB_iff.1 h
  obtain ⟨k1, m, k2, k3⟩ := preB_iff.1 k
  have hn : p.path.length = n := by rw [h3, List.length_take]; omega
  have hm : q.path.length = m := by rw [k3, List.length_take]; omega
  rcases Nat.le_total n m with e | e
  · exact Or.inl (preB_iff.2 ⟨h1.trans k1.symm, n, by omega, by rw [h3, k3, List.take_take]; congr 1; omega⟩)
  · exact Or.inr (preB_iff.2 ⟨k1.trans h1.symm, m, by omega, by rw [h3, k3, List.take_take]; congr 1; omega⟩)
theorem ordP_zero {p q : Pl} : ordP p q = 0 ↔ p.loc = q.loc ∧ p.path = q.path := by
  unfold ordP
  by_cases h : cmpI p.loc q.loc = 0
  · rw [if_pos h, cmpL_zero]
    exact ⟨fun e => ⟨cmpI_zero.1 h, e⟩, fun e => e.2⟩
  · rw [if_neg h]
    exact ⟨fun e => absurd e h, fun e => absurd (cmpI_zero.2 e.1) h⟩
theorem ordP_neg (p q : Pl) : ordP p q = - ordP q p := by
  unfold ordP
  have hn := cmpI_neg p.loc q.loc
  by_cases h : cmpI p.loc q.loc = 0
  · rw [if_pos h, if_pos (by omega)]; exact cmpL_neg _ _
  · rw [if_neg h, if_neg (by omega)]; exact hn
theorem ordP_range (p q : Pl) : ordP p q = -1 ∨ ordP p q = 0 ∨ ordP p q = 1 := by
  unfold ordP
  by_cases h : cmpI p.loc q.loc = 0
  · rw [if_pos h]; exact cmpL_range _ _
  · rw [if_neg h]; have := cmpI_cases p.loc q.loc; omega
theorem ordP_trans (p q r : Pl) (h1 : ordP p q ≤ 0) (h2 : ordP q r ≤ 0) : ordP p r ≤ 0 ∧ (ordP p r = 0 → ordP p q = 0 ∧ ordP q r = 0) := by
  unfold ordP at *
  have c1 := cmpI_cases p.loc q.loc
  have c2 := cmpI_cases q.loc r.loc
  have c3 := cmpI_cases p.loc r.loc
  by_cases e1 : cmpI p.loc q.loc = 0
  · rw [if_pos e1] at h1 ⊢
    by_cases e2 : cmpI q.loc r.loc = 0
    · rw [if_pos e2] at h2 ⊢
      rw [if_pos (by omega)]
      exact cmpL_trans _ _ _ h1 h2
    · rw [if_neg e2] at h2 ⊢
      rw [if_neg (by omega)]
      omega
  · rw [if_neg e1] at h1 ⊢
    by_cases e2 : cmpI q.loc r.loc = 0
    · rw [if_pos e2] at h2 ⊢
      rw [if_neg (by omega)]
      omega
    · rw [if_neg e2] at h2 ⊢
      rw [if_neg (by omega)]
      omega
theorem pre_ord {p q : Pl} (h : preB p q = true) : ordP p q ≤ 0 := by
  obtain ⟨h1, n, h2, h3⟩ := preB_iff.1 h
  unfold ordP
  rw [if_pos (cmpI_zero.2 h1), h3]
  exact cmpL_take _ _
theorem pre_same (p q : Pl) : (preB p q && preB q p) = decide (ordP p q = 0) := by
  rw [Bool.eq_iff_iff, Bool.and_eq_true, decide_eq_true_eq, ordP_zero]
  constructor
  · rintro ⟨h, k⟩
    obtain ⟨h1, n, h2, h3⟩ := preB_iff.1 h
    obtain ⟨k1, m, k2, k3⟩ := preB_iff.1 k
    refine ⟨h1, ?_⟩
    have hn : p.path.length = n := by rw [h3, List.length_take]; omega
    have hm : q.path.length = m := by rw [k3, List.length_take]; omega
    rw [h3, List.take_of_length_le (by omega)]
  · rintro ⟨h1, h2⟩
    exact ⟨preB_iff.2 ⟨h1, q.path.length, Nat.le_refl _, by rw [List.take_length]; exact h2⟩, preB_iff.2 ⟨h1.symm, p.path.length, Nat.le_refl _, by rw [List.take_length]; exact h2.symm⟩⟩
/-- A place's first steps. -/
def cutP (p : Pl) (n : Nat) : Pl := ⟨p.loc, p.path.take n⟩
theorem cut_pre (p : Pl) {n : Nat} (h : n ≤ p.path.length) : preB (cutP p n) p = true := preB_iff.2 ⟨rfl, n, h, rfl⟩
theorem cut_all (p : Pl) : ordP (cutP p p.path.length) p = 0 := ordP_zero.2 ⟨rfl, List.take_length⟩
theorem cut_next (p : Pl) {n : Nat} (h : n < p.path.length) : preB (cutP p n) (cutP p (n + 1)) = true ∧ ordP (cutP p n) (cutP p (n + 1)) = -1 := by
  refine ⟨preB_iff.2 ⟨rfl, n, ?_, ?_⟩, ?_⟩
  · show n ≤ (p.path.take (n + 1)).length
    rw [List.length_take]; omega
  · show p.path.take n = (p.path.take (n + 1)).take n
    rw [List.take_take]; congr 1; omega
  · show (if cmpI p.loc p.loc = 0 then cmpL (p.path.take n) (p.path.take (n + 1)) else cmpI p.loc p.loc) = -1
    rw [if_pos (cmpI_zero.2 rfl)]
    exact cmpL_step _ _ h
/-- Is a place among the first k prefixes of another one? -/
def foundB (p q : Pl) (k : Nat) : Bool := (List.range k).any fun n => decide (ordP (cutP p n) q = 0)
theorem found_succ (p q : Pl) (k : Nat) : foundB p q (k + 1) = (foundB p q k || decide (ordP (cutP p k) q = 0)) := by
  unfold foundB
  rw [List.range_succ, List.any_append]
  simp
theorem found_all (p q : Pl) : foundB p q (p.path.length + 1) = preB q p := by
  rw [Bool.eq_iff_iff, preB_iff]
  unfold foundB
  rw [List.any_eq_true]
  constructor
  · rintro ⟨n, hn, h⟩
    obtain ⟨h1, h2⟩ := ordP_zero.1 (of_decide_eq_true h)
    have := List.mem_range.1 hn
    exact ⟨h1.symm, n, by omega, h2.symm⟩
  · rintro ⟨h1, n, h2, h3⟩
    exact ⟨n, List.mem_range.2 (by omega), decide_eq_true (ordP_zero.2 ⟨h1.symm, h3.symm⟩)⟩
end Go.Proofs.YtpigppghcghpbaaGreatDoor

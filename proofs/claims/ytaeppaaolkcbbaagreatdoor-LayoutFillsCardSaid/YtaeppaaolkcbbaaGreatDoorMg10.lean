/- layout.Class, Size. LayoutFills, plainly: boxes one behind the other; a type's words; classes that are wide enough. typeFits of a law: any type. loanwordlaw23.structsFit. -/
import Derived.Test.YtaeppaaolkcbbaaGreatDoorMg07
import Derived.Test.YtaeppaaolkcbbaaGreatDoorMg09
import Derived.Test.YtaeppaaolkcbbaaGreatDoorMg03
import Derived.Deep.DeepCutAuto
import Derived.Deep.LoopGhost
namespace Go.Proofs.YtaeppaaolkcbbaaGreatDoor
open Go.RowKit

set_option maxRecDepth 100000 in
set_option maxHeartbeats 8000000 in
theorem lySize_any (c : Int) (hc : -9223372036854775808 ≤ c ∧ c ≤ 9223372036854775807) (w : World) : Calls Tryz.prog 11 #[.int .i64 c] w fun e w' => e = .returned (.tuple #[.int .i64 (sizW c).1, .int .i64 (sizW c).2]) ∧ w = w' := by
  obtain ⟨w0, rfl⟩ : ∃ w0, w0 = w := ⟨_, rfl⟩
  by_cases h0 : c < 0
  · have HS : Hid (sizW c = (0, 2)) := Lib.hid (by unfold sizW; rw [if_neg (by omega), if_neg (by omega), if_neg (by omega), if_neg (by omega), if_neg (by omega)])
    have t0 : decide (c < 0) = true := decide_eq_true h0
    rw [HS.out]
    go_enter Tryz.func11, Tryz.ntmps11
    go_wp2_with fail
    go_ret2
    exact ⟨rfl, rfl⟩
  · have t0 : decide (c < 0) = false := decide_eq_false h0
    by_cases h5 : 5 ≤ c
    · have HS : Hid (sizW c = (0, 2)) := Lib.hid (by unfold sizW; rw [if_neg (by omega), if_neg (by omega), if_neg (by omega), if_neg (by omega), if_neg (by omega)])
      have t5 : decide ((5 : Int) ≤ c) = true := decide_eq_true h5
      rw [HS.out]
      go_enter Tryz.func11, Tryz.ntmps11
      go_wp2_with fail
      go_ret2
      exact ⟨rfl, rfl⟩
    · obtain rfl | rfl | rfl | rfl | rfl : c = 0 ∨ c = 1 ∨ c = 2 ∨ c = 3 ∨ c = 4 := by omega
      all_goals
        go_enter Tryz.func11, Tryz.ntmps11
        go_wp2_with fail
        go_ret2
        exact ⟨rfl, rfl⟩
def pw2 (k : Nat) : Int := ([1, 2, 4, 8, 16] : List Int).getD k 0
set_option maxRecDepth 100000 in
set_option maxHeartbeats 8000000 in
theorem lyClass_at (c : Int) (R : Nat) (hR5 : R ≤ 5) (key : ∀ k, k < R → c < 1 ∨ pw2 k < c) (fin : R < 5 → 1 ≤ c ∧ c ≤ pw2 R) (w : World) :
    Calls Tryz.prog 9 #[.int .i64 c] w fun e w' => e = .returned (.tuple #[.int .i64 (if R < 5 then (R : Nat) else 0), .int .i64 (if R < 5 then 0 else 2)]) ∧ KB F0 w w' := by
  obtain ⟨w0, rfl⟩ : ∃ w0, w0 = w := ⟨_, rfl⟩
  have HK := Lib.hid (And.intro key fin)
  clear key fin
  obtain ⟨E1, hE1⟩ : ∃ E : Int, E = if R < 5 then ((R : Nat) : Int) else 0 := ⟨_, rfl⟩
  obtain ⟨E2, hE2⟩ : ∃ E : Int, E = if R < 5 then (0 : Int) else 2 := ⟨_, rfl⟩
  rw [← hE1, ← hE2]
  have HE := Lib.hid (And.intro hE1 hE2)
  clear hE1 hE2
  go_enter Tryz.func9, Tryz.ntmps9
  go_wp2_with fail
  go_loopw [5] (fun kv wr => ∃ k : Nat, k ≤ R ∧ kv = .int .i64 (k : Nat) ∧ Hid (KB F0 w0 wr)) (fun kv _ => R - (intOf kv).toNat)
  case atStart => exact ⟨0, by omega, rfl, Lib.hid (KB.refl _ _)⟩
  case round =>
    obtain ⟨k, hk, rfl, hst⟩ := hrel
    by_cases hkR : k < R
    · have h1 := HK.out.1 k hkR
      obtain rfl | rfl | rfl | rfl | rfl : k = 0 ∨ k = 1 ∨ k = 2 ∨ k = 3 ∨ k = 4 := by omega
      all_goals
        simp only [pw2, List.getD_cons_zero, List.getD_cons_succ] at h1
        by_cases hc1 : c < 1
        · have t1 : decide ((1 : Int) ≤ c) = false := decide_eq_false (by omega)
          go_wp2_with fail
          go_roundw
          case rel => exact ⟨_, hkR, by first | rfl | go_num, hst⟩
          case measure => simp [intOf]; omega
        · have t1 : decide ((1 : Int) ≤ c) = true := decide_eq_true (by omega)
          rcases h1 with h1 | h1
          · exact absurd h1 hc1
          go_wp2_with fail
          go_roundw
          case rel => exact ⟨_, hkR, by first | rfl | go_num, hst⟩
          case measure => simp [intOf]; omega
    · obtain rfl : k = R := by omega
      have hfin := HK.out.2
      obtain rfl | rfl | rfl | rfl | rfl | rfl : k = 0 ∨ k = 1 ∨ k = 2 ∨ k = 3 ∨ k = 4 ∨ k = 5 := by omega
      case inr.inr.inr.inr.inr =>
        go_wp2_with fail
        go_ret2
        exact ⟨by rw [HE.out.1, HE.out.2]; rfl, hst.out⟩
      all_goals
        obtain ⟨f1, f2⟩ := hfin (by omega)
        simp only [pw2, List.getD_cons_zero, List.getD_cons_succ] at f2
        have t1 : decide ((1 : Int) ≤ c) = true := decide_eq_true f1
        go_wp2_with fail
        go_ret2
        exact ⟨by rw [HE.out.1, HE.out.2]; rfl, hst.out⟩
theorem lyClass_any (c : Int) (w : World) : Calls Tryz.prog 9 #[.int .i64 c] w fun e w' => e = .returned (.tuple #[.int .i64 (clsW c).1, .int .i64 (clsW c).2]) ∧ KB F0 w w' := by
  have P : ∀ (R : Nat) (hR5 : R ≤ 5) (key : ∀ k, k < R → c < 1 ∨ pw2 k < c) (fin : R < 5 → 1 ≤ c ∧ c ≤ pw2 R), clsW c = (if R < 5 then ((R : Nat) : Int) else 0, if R < 5 then 0 else 2) →
      Calls Tryz.prog 9 #[.int .i64 c] w fun e w' => e = .returned (.tuple #[.int .i64 (clsW c).1, .int .i64 (clsW c).2]) ∧ KB F0 w w' := fun R h1 h2 h3 h4 => by
    rw [h4]; exact lyClass_at c R h1 h2 h3 w
  by_cases h0 : c < 1
  · exact P 5 (by omega) (fun _ _ => Or.inl h0) (fun h => by omega) (by unfold clsW; rw [if_pos h0]; rfl)
  by_cases h1 : c ≤ 1
  · exact P 0 (by omega) (fun k hk => by omega) (fun _ => ⟨by omega, h1⟩) (by unfold clsW; rw [if_neg h0, if_pos h1]; rfl)
  have k0 : pw2 0 < c := by show (1 : Int) < c; omega
  by_cases h2 : c ≤ 2
  · exact P 1 (by omega) (fun k hk => by obtain rfl : k = 0 := by omega
                                         exact Or.inr k0) (fun _ => ⟨by omega, h2⟩) (by unfold clsW; rw [if_neg h0, if_neg h1, if_pos h2]; rfl)
  have k1 : pw2 1 < c := by show (2 : Int) < c; omega
  by_cases h4 : c ≤ 4
  · exact P 2 (by omega) (fun k hk => by obtain rfl | rfl : k = 0 ∨ k = 1 := by omega
                                         · exact Or.inr k0
                                         · exact Or.inr k1) (fun _ => ⟨by omega, h4⟩) (by unfold clsW; rw [if_neg h0, if_neg h1, if_neg h2, if_pos h4]; rfl)
  have k2 : pw2 2 < c := by show (4 : Int) < c; omega
  by_cases h8 : c ≤ 8
  · exact P 3 (by omega) (fun k hk => by obtain rfl | rfl | rfl : k = 0 ∨ k = 1 ∨ k = 2 := by omega
                                         · exact Or.inr k0
                                         · exact Or.inr k1
                                         · exact Or.inr k2) (fun _ => ⟨by omega, h8⟩) (by unfold clsW; rw [if_neg h0, if_neg h1, if_neg h2, if_neg h4, if_pos h8]; rfl)
  have k3 : pw2 3 < c := by show (8 : Int) < c; omega
  by_cases h16 : c ≤ 16
  · exact P 4 (by omega) (fun k hk => by obtain rfl | rfl | rfl | rfl : k = 0 ∨ k = 1 ∨ k = 2 ∨ k = 3 := by omega
                                         · exact Or.inr k0
                                         · exact Or.inr k1
                                         · exact Or.inr k2
                                         · exact Or.inr k3) (fun _ => ⟨by omega, h16⟩) (by unfold clsW; rw [if_neg h0, if_neg h1, if_neg h2, if_neg h4, if_neg h8, if_pos h16]; rfl)
  have k4 : pw2 4 < c := by show (16 : Int) < c; omega
  exact P 5 (by omega) (fun k hk => by obtain rfl | rfl | rfl | rfl | rfl : k = 0 ∨ k = 1 ∨ k = 2 ∨ k = 3 ∨ k = 4 := by omega
                                       · exact Or.inr k0
                                       · exact Or.inr k1
                                       · exact Or.inr k2
                                       · exact Or.inr k3
                                       · exact Or.inr k4) (fun h => by omega) (by unfold clsW; rw [if_neg h0, if_neg h1, if_neg h2, if_neg h4, if_neg h8, if_neg h16]; rfl)
end Go.Proofs.YtaeppaaolkcbbaaGreatDoor

namespace Go.Proofs.YtaeppaaolkcbbaaGreatDoor
open Go.RowKit

theorem bxF_fin {S : List (List Ty)} : ∀ {n m : Nat} {t : Ty}, FinD S n t → n ≤ m → ∀ a, bxF S m t a = bxF S n t a := by
  intro n
  induction n with
  | zero => intro m t h; exact h.elim
  | succ n ih =>
    intro m t h hm a
    cases m with
    | zero => omega
    | succ m =>
      unfold bxF
      by_cases h3 : t.k = 3
      · rw [if_pos h3, if_pos h3]
      rw [if_neg h3, if_neg h3]
      by_cases h5 : t.k = 5
      · rw [if_pos h5, if_pos h5]
        have key : ∀ (l : List Ty), (∀ f ∈ l, FinD S n f) → ∀ a, bxL (bxF S m) (wF S m) l a = bxL (bxF S n) (wF S n) l a := by
          intro l
          induction l with
          | nil => intro _ a; rfl
          | cons f l ihl =>
            intro hl a
            have hf := hl f List.mem_cons_self
            simp only [bxL, wF_fin hf (show n ≤ m by omega), ihl (fun x hx => hl x (List.mem_cons_of_mem _ hx))]
            rw [ih hf (show n ≤ m by omega)]
        exact key _ (fun f hf => h h5 f hf) a
      · rw [if_neg h5, if_neg h5]
theorem bxL_shift (rec : Ty → Nat → List (Nat × Ty)) (wd : Ty → Nat) (h : ∀ f a d, atsI (rec f (a + d)) = (atsI (rec f a)).map (· + (d : Int))) (l : List Ty) :
    ∀ a d, atsI (bxL rec wd l (a + d)) = (atsI (bxL rec wd l a)).map (· + (d : Int)) := by
  induction l with
  | nil => intro a d; rfl
  | cons f l ih =>
    intro a d
    have e1 : ∀ x y : List (Nat × Ty), atsI (x ++ y) = atsI x ++ atsI y := fun x y => by simp [atsI]
    simp only [bxL, e1, List.map_append, h]
    rw [show a + d + wd f = (a + wd f) + d by omega, ih]
theorem bxF_shift (S : List (List Ty)) : ∀ n t a d, atsI (bxF S n t (a + d)) = (atsI (bxF S n t a)).map (· + (d : Int)) := by
  intro n
  induction n with
  | zero => intro t a d; rfl
  | succ n ih =>
    intro t a d
    unfold bxF
    by_cases h3 : t.k = 3
    · rw [if_pos h3, if_pos h3]; simp [atsI]
    rw [if_neg h3, if_neg h3]
    by_cases h5 : t.k = 5
    · rw [if_pos h5, if_pos h5]; exact bxL_shift _ _ ih _ a d
    · rw [if_neg h5, if_neg h5]; rfl
theorem bxL_none (rec : Ty → Nat → List (Nat × Ty)) (wd : Ty → Nat) (dr : Ty → Bool) (h : ∀ f a, (rec f a = []) ↔ dr f = false) (l : List Ty) : ∀ a, (bxL rec wd l a = []) ↔ l.any dr = false := by
  induction l with
  | nil => intro a; exact ⟨fun _ => rfl, fun _ => rfl⟩
  | cons f l ih =>
    intro a
    simp only [bxL, List.append_eq_nil_iff, List.any_cons, Bool.or_eq_false_iff, h, ih]
theorem bxF_none (S : List (List Ty)) : ∀ n t a, (bxF S n t a = []) ↔ drF S n t = false := by
  intro n
  induction n with
  | zero => intro t a; exact ⟨fun _ => rfl, fun _ => rfl⟩
  | succ n ih =>
    intro t a
    unfold bxF drF
    by_cases h3 : t.k = 3
    · rw [if_pos h3, if_pos h3]; simp
    rw [if_neg h3, if_neg h3]
    by_cases h5 : t.k = 5
    · rw [if_pos h5, if_pos h5]; exact bxL_none _ _ _ ih _ a
    · rw [if_neg h5, if_neg h5]; simp
theorem bxN_drops (S : List (List Ty)) (t : Ty) : decide (0 < (bxN S t).length) = drF S 34 t := by
  have h := bxF_none S 34 t 0
  unfold bxN atsI
  rw [List.length_map]
  cases hd : drF S 34 t with
  | false => rw [h.2 hd]; rfl
  | true =>
    refine decide_eq_true ?_
    have : bxF S 34 t 0 ≠ [] := fun e => by rw [h.1 e] at hd; cases hd
    exact List.length_pos_iff.2 this
theorem bxN_one {S : List (List Ty)} {t : Ty} (h : t.k ≠ 5) : (bxN S t).length ≤ 1 := by
  unfold bxN atsI bxF
  by_cases h3 : t.k = 3
  · rw [if_pos h3]; exact Nat.le_refl _
  · rw [if_neg h3, if_neg h]; exact Nat.zero_le _
theorem mem_le_sum {l : List Nat} {x : Nat} (h : x ∈ l) : x ≤ l.sum := by
  induction l with
  | nil => cases h
  | cons y l ih =>
    rw [List.sum_cons]
    rcases List.mem_cons.1 h with rfl | h
    · omega
    · have := ih h; omega
theorem wF_pos {S : List (List Ty)} (hg : GoodS S) : ∀ n t, FinD S n t → InT S t → 1 ≤ wF S n t := by
  intro n
  induction n with
  | zero => intro t h; exact h.elim
  | succ n ih =>
    intro t h hin
    unfold wF
    by_cases h5 : t.k = 5
    · rw [if_pos h5]
      have hlt : t.s.toNat < S.length := by have := hin h5; omega
      have h1 := hg.len1 hlt
      obtain ⟨f, hf⟩ : ∃ f, f ∈ fds S t.s.toNat := List.exists_mem_of_length_pos (by omega)
      have h2 := ih f (h h5 f hf) (hg.inR.inT hf)
      have h3 : wF S n f ∈ (fds S t.s.toNat).map (wF S n) := List.mem_map_of_mem hf
      have h4 := mem_le_sum h3
      omega
    · rw [if_neg h5]; exact Nat.le_refl _
/-- The boxes in the first fields of a struct. -/
def bxT (S : List (List Ty)) (u i : Nat) : List Int := atsI (bxL (bxF S 34) (wF S 34) ((fds S u).take i) 0)
theorem bxT_zero (S : List (List Ty)) (u : Nat) : bxT S u 0 = [] := rfl
theorem bxT_succ (S : List (List Ty)) {u i : Nat} (h : i < (fds S u).length) : bxT S u (i + 1) = bxT S u i ++ (bxN S ((fds S u).getD i ty0)).map (· + (wsum S 34 u i : Int)) := by
  unfold bxT bxN
  rw [bxL_step _ _ h]
  have e1 : ∀ x y : List (Nat × Ty), atsI (x ++ y) = atsI x ++ atsI y := fun x y => by simp [atsI]
  rw [e1]
  congr 1
  exact bxF_shift S 34 _ 0 _
theorem bxT_full {S : List (List Ty)} (hg : GoodS S) {t : Ty} (h5 : t.k = 5) : bxT S t.s.toNat (fds S t.s.toNat).length = bxN S t := by
  unfold bxT bxN
  rw [List.take_length]
  have e : bxF S 35 t 0 = bxF S 34 t 0 := bxF_fin (hg.fin t) (by omega) 0
  rw [← e]
  show _ = atsI (if t.k = 3 then _ else if t.k = 5 then _ else _)
  rw [if_neg (by omega), if_pos h5]
theorem bxT_prefix (S : List (List Ty)) (u : Nat) {i j : Nat} (h : i ≤ j) (hj : j ≤ (fds S u).length) : ∃ r, bxT S u j = bxT S u i ++ r := by
  induction j with
  | zero => obtain rfl : i = 0 := by omega
            exact ⟨[], by simp⟩
  | succ j ih =>
    rcases Nat.lt_or_eq_of_le h with h1 | rfl
    · obtain ⟨r, hr⟩ := ih (by omega) (by omega)
      exact ⟨r ++ _, by rw [bxT_succ S (by omega), hr, List.append_assoc]⟩
    · exact ⟨[], by simp⟩
theorem shift_at (A : List Int) (d : Int) (r B : List Int) {q : Nat} (h : q < B.length) : (A ++ (B.map (· + d) ++ r)).getD (A.length + q) 0 = d + B.getD q 0 := by
  rw [List.getD_eq_getElem?_getD, List.getElem?_append_right (by omega), Nat.add_sub_cancel_left, List.getElem?_append_left (by simpa using h), List.getElem?_map, List.getD_eq_getElem?_getD, List.getElem?_eq_getElem h]
  show B[q] + d = d + B[q]
  omega
/-- A field's boxes among the struct's. -/
theorem bxT_at {S : List (List Ty)} (hg : GoodS S) {t : Ty} (h5 : t.k = 5) {i : Nat} (hi : i < (fds S t.s.toNat).length) :
    (bxT S t.s.toNat i).length + (bxN S ((fds S t.s.toNat).getD i ty0)).length ≤ (bxN S t).length ∧
    (bxT S t.s.toNat (i + 1)).length = (bxT S t.s.toNat i).length + (bxN S ((fds S t.s.toNat).getD i ty0)).length ∧
    ∀ q, q < (bxN S ((fds S t.s.toNat).getD i ty0)).length → (bxN S t).getD ((bxT S t.s.toNat i).length + q) 0 = (wsum S 34 t.s.toNat i : Int) + (bxN S ((fds S t.s.toNat).getD i ty0)).getD q 0 := by
  obtain ⟨r, hr⟩ := bxT_prefix S t.s.toNat (show i + 1 ≤ (fds S t.s.toNat).length by omega) (Nat.le_refl _)
  rw [bxT_full hg h5, bxT_succ S hi, List.append_assoc] at hr
  refine ⟨by rw [hr]; simp, by rw [bxT_succ S hi]; simp, fun q hq => ?_⟩
  rw [hr]
  exact shift_at _ _ r (bxN S ((fds S t.s.toNat).getD i ty0)) hq
theorem bxL_bound (rec : Ty → Nat → List (Nat × Ty)) (wd : Ty → Nat) (h : ∀ f a, ∀ q ∈ rec f a, a ≤ q.1 ∧ q.1 < a + wd f) (l : List Ty) : ∀ a, ∀ q ∈ bxL rec wd l a, a ≤ q.1 ∧ q.1 < a + (l.map wd).sum := by
  induction l with
  | nil => intro a q hq; cases hq
  | cons f l ih =>
    intro a q hq
    simp only [bxL, List.mem_append] at hq
    rw [List.map_cons, List.sum_cons]
    rcases hq with hq | hq
    · have := h f a q hq; omega
    · have := ih (a + wd f) q hq; omega
theorem bxF_bound (S : List (List Ty)) : ∀ n t a, ∀ q ∈ bxF S n t a, a ≤ q.1 ∧ q.1 < a + wF S n t := by
  intro n
  induction n with
  | zero => intro t a q hq; cases hq
  | succ n ih =>
    intro t a q hq
    unfold bxF at hq
    unfold wF
    by_cases h3 : t.k = 3
    · rw [if_pos h3, List.mem_singleton] at hq
      rw [if_neg (by omega), hq]
      exact ⟨Nat.le_refl _, by show a < a + 1; omega⟩
    rw [if_neg h3] at hq
    by_cases h5 : t.k = 5
    · rw [if_pos h5] at hq ⊢; exact bxL_bound _ _ ih _ a q hq
    · rw [if_neg h5] at hq; cases hq
theorem bxN_bound {S : List (List Ty)} (hg : GoodS S) {t : Ty} (hin : InT S t) {q : Nat} (h : q < (bxN S t).length) : 0 ≤ (bxN S t).getD q 0 ∧ (bxN S t).getD q 0 ≤ 16 := by
  have hm : (bxN S t).getD q 0 ∈ bxN S t := by rw [List.getD_eq_getElem?_getD, List.getElem?_eq_getElem h]; exact List.getElem_mem _
  obtain ⟨p, hp, e⟩ := List.mem_map.1 hm
  have h1 := bxF_bound S 34 t 0 p hp
  have h2 := hg.w16 34 t (hg.fin t) hin
  rw [← e]
  show (0 : Int) ≤ (p.1 : Int) ∧ (p.1 : Int) ≤ 16
  omega
/-- A class wide enough, and no wider. -/
theorem cls_fit {w : Nat} (h1 : 1 ≤ w) (h16 : w ≤ 16) : (clsW (w : Int)).2 = 0 ∧ (sizW (clsW (w : Int)).1).2 = 0 ∧ (w : Int) ≤ (sizW (clsW (w : Int)).1).1 ∧ ((clsW (w : Int)).1 ≤ 0 ∨ (sizW (clsW (w : Int)).1).1.tdiv 2 < (w : Int)) ∧ 0 ≤ (sizW (clsW (w : Int)).1).1 ∧ (sizW (clsW (w : Int)).1).1 ≤ 16 := by
  obtain rfl | rfl | rfl | rfl | rfl | rfl | rfl | rfl | rfl | rfl | rfl | rfl | rfl | rfl | rfl | rfl : w = 1 ∨ w = 2 ∨ w = 3 ∨ w = 4 ∨ w = 5 ∨ w = 6 ∨ w = 7 ∨ w = 8 ∨ w = 9 ∨ w = 10 ∨ w = 11 ∨ w = 12 ∨ w = 13 ∨ w = 14 ∨ w = 15 ∨ w = 16 := by omega
  all_goals decide
end Go.Proofs.YtaeppaaolkcbbaaGreatDoor

namespace Go.Proofs.YtaeppaaolkcbbaaGreatDoor
open Go.RowKit

def SomeB (P : Bool → Prop) (w : World) (e : Ending) (w' : World) : Prop := ∃ b : Bool, e = .returned (.bool b) ∧ P b ∧ KB F0 w w'
set_option maxRecDepth 100000 in
set_option maxHeartbeats 32000000 in
theorem typeFits_any : ∀ n : Nat, n ≤ 60 → ∀ (d : Nat), d ≤ n → ∀ (t : Ty) (a : Option Addr) (c : Nat) (w : World), TyAt (n + 1) w t a c →
    Calls Tryz.prog 20 #[tyV t a c, .int .i64 (d : Nat)] w (SomeB (fun _ => True) w) := by
  intro n
  induction n with
  | zero =>
    intro _ d hd t a c w _
    obtain rfl : d = 0 := by omega
    obtain ⟨w0, rfl⟩ : ∃ w0, w0 = w := ⟨_, rfl⟩
    have HK := Lib.hid (boxTy w0 t a c).1
    unfold tyV
    go_enter Tryz.func20, Tryz.ntmps20
    go_wp2_with fail
    go_ret
    exact ⟨_, rfl, trivial, HK.out⟩
  | succ n ih =>
    intro hn d hd t a c w h
    obtain ⟨w0, rfl⟩ : ∃ w0, w0 = w := ⟨_, rfl⟩
    cases d with
    | zero =>
      have HK := Lib.hid (boxTy w0 t a c).1
      clear ih h
      unfold tyV
      go_enter Tryz.func20, Tryz.ntmps20
      go_wp2_with fail
      go_ret
      exact ⟨_, rfl, trivial, HK.out⟩
    | succ d =>
      obtain ⟨W, hW⟩ : ∃ W, W = w0.alloc (.cells #[.int .u8 t.k, .bool t.m, .int .i64 t.r, .int .i64 t.s, .slice a t.of.length c] 26) := ⟨_, rfl⟩
      obtain ⟨kb, hb⟩ := boxTy w0 t a c
      rw [← hW] at kb hb
      obtain ⟨L, hL⟩ : ∃ L, L = t.of.length := ⟨_, rfl⟩
      have c4 : W.cell? ⟨w0.heap.size, 4, none⟩ = some (.slice a L c) := by rw [hL]; exact blk_cell hb 4
      have hLc : L ≤ c := by rw [hL]; exact h.1
      have HI := Lib.hid (fun (i : Nat) (hi : i < L) => h.2 i (by rw [← hL]; exact hi))
      have IH := Lib.hid (fun (x : Int) (h0 : 0 ≤ x) (h1 : x ≤ (n : Int)) (u : Ty) (ua : Option Addr) (uc : Nat) (V : World) (hu : TyAt (n + 1) V u ua uc) => (show Calls Tryz.prog 20 #[tyV u ua uc, .int .i64 x] V (SomeB (fun _ => True) V) from by
        have := ih (by omega) x.toNat (by omega) u ua uc V hu
        rwa [show ((x.toNat : Nat) : Int) = x by omega] at this))
      rw [← hL] at hW
      have HW := Lib.hid hW
      have HK := Lib.hid kb
      have HC4 := Lib.hid c4
      unfold tyV
      rw [← hL]
      have ht0 : (((d + 1 : Nat) : Int) == 0) = false := by first | (simp; done) | (simp; omega)
      have hw1 : IntKind.i64.wrap (((d + 1 : Nat) : Int) - 1) = (d : Int) := by rw [w64 (by omega) (by omega)]; omega
      have hdn : d ≤ n := by omega
      clear hW kb hb hL h ih
      generalize t.k = tk at *
      generalize t.m = tm at *
      generalize t.r = tr at *
      generalize t.s = ts at *
      go_enter Tryz.func20, Tryz.ntmps20
      go_upto_region 1 with fail
      rw [← HW.out]
      by_cases h3 : 3 < L
      · have d3 : decide ((3 : Int) < (L : Int)) = true := decide_eq_true (by omega)
        have d3n : decide (3 < L) = true := decide_eq_true h3
        have d3i : (3 : Int) < (L : Int) := by omega
        go_wp2_with fail
        go_ret
        exact ⟨_, rfl, trivial, HK.out⟩
      · have d3 : decide ((3 : Int) < (L : Int)) = false := decide_eq_false (by omega)
        have d3n : decide (3 < L) = false := decide_eq_false h3
        have d3i : ¬ ((3 : Int) < (L : Int)) := by omega
        go_wp2_with fail
        clear c4 d3 d3n d3i
        go_loopg [5] L (fun g iv wr => ∃ i, i ≤ L ∧ g = L - i ∧ iv = .int .i64 (i : Nat) ∧ Hid (KB F0 W wr))
        case atStart => exact ⟨0, by omega, by omega, rfl, Lib.hid (KB.refl _ _)⟩
        case round =>
          obtain ⟨i, hi, rfl, rfl, hst⟩ := hrel
          have c4 := hst.out.cell (p := ⟨w0.heap.size, 4, none⟩) (fun x => x) HC4.out
          by_cases hit : i < L
          · have hiI : (i : Int) < (L : Int) := by omega
            have dI : decide ((i : Int) < (L : Int)) = true := decide_eq_true hiI
            obtain ⟨b, o, ua, uc, rfl, hty, hta⟩ := HI.out i hit
            obtain ⟨t0, t1, t2, t3, t4⟩ := hty.kbF (HK.out.trans hst.out)
            have hta2 := hta.kbF (HK.out.trans hst.out)
            generalize t.of.getD i ty0 = u at t0 t1 t2 t3 t4 hta2
            have IHu := fun (x : Int) (h0 : 0 ≤ x) (h1 : x ≤ (n : Int)) => IH.out x h0 h1 u ua uc wr hta2
            unfold tyV at IHu
            have IH2 := Lib.hid IHu
            clear hty hta hta2 IHu
            generalize u.k = fk at *
            generalize u.m = fm at *
            generalize u.r = fr at *
            generalize u.s = fs at *
            generalize u.of.length = M at *
            have hi3 : i < 3 := by omega
            have hd60 : (d : Int) ≤ 60 := by omega
            have hdnI : (d : Int) ≤ (n : Int) := by omega
            go_wp2_with fail
            all_goals
              refine (IH2.out _ (by omega) (by omega)).mono ?_
              rintro e w5 ⟨bb, rfl, -, k5⟩
              have K5 := Lib.hid (hst.out.trans k5)
              clear k5 t0 t1 t2 t3 t4 c4
              cases bb
              · go_wp2_with fail
                go_ret
                exact ⟨_, rfl, trivial, HK.out.trans K5.out⟩
              · go_wp2_with fail
                go_roundg (L - (i + 1))
                case measure => omega
                case rel => exact ⟨i + 1, by omega, rfl, by go_num, K5⟩
          · obtain rfl : i = L := by omega
            have dI : decide ((i : Int) < (i : Int)) = false := decide_eq_false (by omega)
            go_wp2_with fail
            go_ret
            exact ⟨_, rfl, trivial, HK.out.trans hst.out⟩
end Go.Proofs.YtaeppaaolkcbbaaGreatDoor

namespace Go.Proofs.YtaeppaaolkcbbaaGreatDoor
open Go.RowKit

theorem stsLe {w : World} {n m : Nat} {a : Option Addr} {S : List (List Ty)} (h : StsAt n w a S) (hm : m ≤ n) : StsAt m w a S := fun i hi => by
  obtain ⟨b, o, nm, fa, fc, e, h0, h1, h2, h3⟩ := h i hi
  refine ⟨b, o, nm, fa, fc, e, h0, h1, h2, fun j hj => ?_⟩
  obtain ⟨b, o, nm, a', c', e, h4, h5, h6⟩ := h3 j hj
  exact ⟨b, o, nm, a', c', e, h4, h5, h6.le hm⟩
def FitEnd (S : List (List Ty)) (w : World) (e : Ending) (w' : World) : Prop := ∃ f : Bool, e = .returned (.bool f) ∧ (f = true → S.length ≤ 60 ∧ ∀ i, (fds S i).length ≤ 60) ∧ KB F0 w w'
theorem fitEnd_no {S : List (List Ty)} {w w' : World} (hk : KB F0 w w') : FitEnd S w (.returned (.bool false)) w' := ⟨false, rfl, (fun h => by cases h), hk⟩
set_option maxRecDepth 100000 in
set_option maxHeartbeats 16000000 in
theorem lyFit_any (S : List (List Ty)) (a : Option Addr) (c : Nat) (t : Ty) (ta : Option Addr) (tc : Nat) (w : World) (h : StsAt 61 w a S) (ht : TyAt 61 w t ta tc) :
    Calls Tryz.prog 7 #[.slice a S.length c, tyV t ta tc] w (FitEnd S w) := by
  obtain ⟨w0, rfl⟩ : ∃ w0, w0 = w := ⟨_, rfl⟩
  obtain ⟨W, hW⟩ : ∃ W, W = w0.alloc (.cells #[.int .u8 t.k, .bool t.m, .int .i64 t.r, .int .i64 t.s, .slice ta t.of.length tc] 26) := ⟨_, rfl⟩
  obtain ⟨kb, hb⟩ := boxTy w0 t ta tc
  rw [← hW] at kb hb
  obtain ⟨c0, c1, c2, c3, c4⟩ := TyCells.of_block hb
  have TF := Lib.hid (typeFits_any 60 (by omega) 60 (by omega) t ta tc W (ht.kbF kb))
  have HW := Lib.hid hW
  have HB := Lib.hid (And.intro kb h)
  obtain ⟨LS, hLS⟩ : ∃ L, L = S.length := ⟨_, rfl⟩
  rw [← hLS]
  have HLS := Lib.hid hLS
  clear kb hb hW h ht hLS
  unfold tyV at TF ⊢
  simp only [Nat.zero_add] at c0 c1 c2 c3 c4
  by_cases h60 : 60 < LS
  · have d0 : decide ((60 : Int) < (LS : Int)) = true := decide_eq_true (by omega)
    have d0n : decide (60 < LS) = true := decide_eq_true h60
    go_enter Tryz.func7, Tryz.ntmps7
    go_upto_region 1 with fail
    rw [← HW.out]
    go_wp2_with fail
    go_ret
    exact fitEnd_no HB.out.1
  · have d0 : decide ((60 : Int) < (LS : Int)) = false := decide_eq_false (by omega)
    have d0n : decide (60 < LS) = false := decide_eq_false h60
    go_enter Tryz.func7, Tryz.ntmps7
    go_upto_region 1 with fail
    rw [← HW.out]
    go_wp2_with fail
    refine TF.out.mono ?_
    rintro e w2 ⟨f, rfl, -, k2⟩
    have K2 := Lib.hid (HB.out.1.trans k2)
    clear k2 c0 c1 c2 c3 c4
    cases f
    case false =>
      go_wp2_with fail
      go_ret
      exact fitEnd_no K2.out
    case true =>
      go_wp2_with fail
      go_loopg [5] LS (fun g iv wr => ∃ i, i ≤ LS ∧ g = LS - i ∧ iv = .int .i64 (i : Nat) ∧ Hid (KB F0 w0 wr ∧ ∀ j, j < i → (fds S j).length ≤ 60))
      case atStart => exact ⟨0, by omega, by omega, rfl, Lib.hid ⟨K2.out, fun j hj => by omega⟩⟩
      case round =>
        obtain ⟨i, hi, rfl, rfl, hst⟩ := hrel
        obtain ⟨wi, rfl⟩ : ∃ w, w = wr := ⟨_, rfl⟩
        by_cases hlt : i < LS
        · have hiI : (i : Int) < (LS : Int) := by omega
          have dI : decide ((i : Int) < (LS : Int)) = true := decide_eq_true hiI
          obtain ⟨sb, so, snm, sfa, sfc, rfl, -, hsl0, hsc, hfd⟩ := HB.out.2 i (by rw [← HLS.out]; exact hlt)
          have hsl := hst.out.1.cell (p := ⟨sb, so + i * 2 + 1, none⟩) (fun x => x) hsl0
          have hFu : S.getD i [] = fds S i := rfl
          rw [hFu] at hsl0 hsl hsc hfd
          obtain ⟨Lf, hLf⟩ : ∃ L, L = (fds S i).length := ⟨_, rfl⟩
          rw [← hLf] at hsl0 hsl hsc
          have HF := Lib.hid (And.intro hLf (And.intro hfd hsl0))
          by_cases hf60 : 60 < Lf
          · have d1 : decide ((60 : Int) < (Lf : Int)) = true := decide_eq_true (by omega)
            have d1n : decide (60 < Lf) = true := decide_eq_true hf60
            clear hfd hsl0 hLf hFu
            go_wp2_with fail
            go_ret
            exact fitEnd_no hst.out.1
          · have d1 : decide ((60 : Int) < (Lf : Int)) = false := decide_eq_false (by omega)
            have d1n : decide (60 < Lf) = false := decide_eq_false hf60
            clear hfd hsl0 hLf hFu
            go_wp2_with fail
            go_loopg [6] Lf (fun g2 qv wq => ∃ q, q ≤ Lf ∧ g2 = Lf - q ∧ qv = .int .i64 (q : Nat) ∧ Hid (KB F0 w0 wq))
            case atStart => exact ⟨0, by omega, by omega, rfl, Lib.hid hst.out.1⟩
            case round =>
              obtain ⟨q, hq, rfl, rfl, hsq⟩ := hrel
              obtain ⟨wq, rfl⟩ : ∃ w, w = wr := ⟨_, rfl⟩
              have hsl := hsq.out.cell (p := ⟨sb, so + i * 2 + 1, none⟩) (fun x => x) HF.out.2.2
              by_cases hqlt : q < Lf
              · have hqI : (q : Int) < (Lf : Int) := by omega
                have dQ : decide ((q : Int) < (Lf : Int)) = true := decide_eq_true hqI
                obtain ⟨fb, fo, fnm, fa', fc', rfl, hnm, hty, hta⟩ := HF.out.2.1 q (by rw [← HF.out.1]; exact hqlt)
                obtain ⟨t0, t1, t2, t3, t4⟩ := hty.kbF hsq.out
                have CL := Lib.hid (typeFits_any 60 (by omega) 60 (by omega) ((fds S i).getD q ty0) fa' fc' wq (hta.kbF hsq.out))
                generalize (fds S i).getD q ty0 = ft at t0 t1 t2 t3 t4 CL
                unfold tyV at CL
                clear hnm hty hta
                generalize ft.k = fk at *
                generalize ft.m = fm at *
                generalize ft.r = fr at *
                generalize ft.s = fs at *
                generalize ft.of.length = N at *
                go_wp2_with fail
                refine CL.out.mono ?_
                rintro e w3 ⟨f, rfl, -, k3⟩
                have K3 := Lib.hid (hsq.out.trans k3)
                clear k3 t0 t1 t2 t3 t4 hsl
                cases f
                case false =>
                  go_wp2_with fail
                  go_ret
                  exact fitEnd_no K3.out
                case true =>
                  go_wp2_with fail
                  go_roundg (Lf - (q + 1))
                  case measure => omega
                  case rel => exact ⟨q + 1, by omega, rfl, by go_num, K3⟩
              · obtain rfl : q = Lf := by omega
                have dQ : decide ((q : Int) < (q : Int)) = false := decide_eq_false (by omega)
                have HN : Hid (KB F0 w0 wq ∧ ∀ j, j < i + 1 → (fds S j).length ≤ 60) := Lib.hid ⟨hsq.out, fun j hj => by
                  rcases Nat.lt_or_eq_of_le (Nat.lt_succ_iff.1 hj) with h1 | rfl
                  · exact hst.out.2 j h1
                  · have := HF.out.1; omega⟩
                go_wp2_with fail
                go_roundg (LS - (i + 1))
                case measure => omega
                case rel => exact ⟨i + 1, by omega, rfl, by go_num, HN⟩
        · obtain rfl : i = LS := by omega
          have dI : decide ((i : Int) < (i : Int)) = false := decide_eq_false (by omega)
          have HF : Hid (S.length ≤ 60 ∧ ∀ j, (fds S j).length ≤ 60) := Lib.hid ⟨by rw [← HLS.out]; omega, fun j => by
            by_cases hj : j < i
            · exact hst.out.2 j hj
            · rw [fds_out (by rw [← HLS.out]; exact hj)]; simp⟩
          go_wp2_with fail
          go_ret
          exact ⟨true, rfl, fun _ => HF.out, hst.out.1⟩
end Go.Proofs.YtaeppaaolkcbbaaGreatDoor

/- Places' texts, plain: numbers in their one form, parts between dots, there and back. -/
import Derived.Test.YtpigppghcghpbaaGreatDoorMg04
import Derived.Lib.AtoiAllCases
import Derived.Lib.ItoaNum
import Derived.Lib.ItoaMem
import Derived.Lib.Split
import Derived.Lib.SplitLaws
namespace Go.Proofs.YtpigppghcghpbaaGreatDoor

def isD (c : UInt8) : Bool := decide (48 ≤ c.toNat) && decide (c.toNat ≤ 57)
theorem isD_of {d : Nat} (h : d < 10) : (UInt8.ofNat (48 + d)).toNat = 48 + d := by
  rw [UInt8.toNat_ofNat']; omega
theorem dec_ne (v : Nat) : Lib.decDigits v ≠ [] := by
  rw [Lib.decDigits]
  split
  · simp
  · simp
theorem dec_digits : ∀ v, ∀ c ∈ Lib.decDigits v, 48 ≤ c.toNat ∧ c.toNat ≤ 57 := by
  intro v
  induction v using Nat.strongRecOn with
  | ind v ih =>
    intro c hc
    rw [Lib.decDigits] at hc
    split at hc
    · rename_i h
      rw [List.mem_singleton] at hc
      subst hc
      rw [isD_of h]; omega
    · rename_i h
      rcases List.mem_append.1 hc with hc | hc
      · exact ih (v / 10) (by omega) c hc
      · rw [List.mem_singleton] at hc
        subst hc
        rw [isD_of (by omega)]; omega
/-- The first digit. -/
def hd0 (l : List UInt8) : Nat := (l.headD 0).toNat
theorem hd0_app {a b : List UInt8} (h : a ≠ []) : hd0 (a ++ b) = hd0 a := by
  cases a with
  | nil => exact absurd rfl h
  | cons x a => rfl
/-- loanwordref09.digits, from a byte on: n bytes are behind, they spell v. -/
def digF (first : Nat) : List UInt8 → Nat → Nat → Nat × Nat
  | [], n, v => (v, n)
  | c :: r, n, v => if isD c = true then (if (decide ((9223372036854775807 - (c.toNat - 48)) / 10 < v) || decide (n = 1) && decide (first = 48)) = true then (0, 0) else digF first r (n + 1) (10 * v + (c.toNat - 48))) else (v, n)
def digS (l : List UInt8) : Nat × Nat := digF (hd0 l) l 0 0
/-- A number in its one form: what Atoi and Itoa say. -/
def numL (l : List UInt8) : Option Nat := match Lib.atoiAll l with
  | .ok v => if 0 ≤ v ∧ Lib.itoa v = l then some v.toNat else none
  | _ => none
theorem mag_dec : ∀ v t, v ≤ 9223372036854775807 → Lib.parseUint10 0 (Lib.decDigits v ++ t) = Lib.parseUint10 v t := by
  intro v
  induction v using Nat.strongRecOn with
  | ind v ih =>
    intro t hv
    rw [Lib.decDigits]
    split
    · rename_i h
      show Lib.parseUint10 0 (UInt8.ofNat (48 + v) :: t) = _
      rw [Lib.parseUint10, isD_of h, if_pos (by omega), if_neg (by omega), if_neg (by omega)]
      rw [show 0 * 10 + (48 + v - 48) = v by omega]
    · rename_i h
      rw [List.append_assoc, ih (v / 10) (by omega) _ (by omega)]
      show Lib.parseUint10 (v / 10) (UInt8.ofNat (48 + v % 10) :: t) = _
      rw [Lib.parseUint10, isD_of (by omega), if_pos (by omega), if_neg (by omega), if_neg (by omega)]
      rw [show v / 10 * 10 + (48 + v % 10 - 48) = v by omega]
theorem atoi_dec {v : Nat} (hv : v ≤ 9223372036854775807) : Lib.atoiAll (Lib.decDigits v) = .ok (v : Int) := by
  have hm : Lib.parseMag (Lib.decDigits v) = .ok v := by
    unfold Lib.parseMag
    rw [if_neg (dec_ne v)]
    have := mag_dec v [] hv
    rw [List.append_nil] at this
    rw [this]; rfl
  have hd := dec_digits v
  cases h : Lib.decDigits v with
  | nil => exact absurd h (dec_ne v)
  | cons c r =>
    rw [h] at hm hd
    have := hd c (List.mem_cons_self ..)
    rw [Lib.atoiAll_plain c r (by omega) (by omega), hm]
    unfold Lib.signless
    simp only
    rw [if_neg (by omega)]
theorem numL_iff {l : List UInt8} {v : Nat} : numL l = some v ↔ l = Lib.decDigits v ∧ v ≤ 9223372036854775807 := by
  constructor
  · intro h
    unfold numL at h
    rcases ha : Lib.atoiAll l with u | _ | _
    case ok =>
      rw [ha] at h
      simp only at h
      by_cases hc : 0 ≤ u ∧ Lib.itoa u = l
      · rw [if_pos hc] at h
        have hb := (Lib.atoiAll_bounds ha).2
        have e := Option.some.inj h
        subst e
        refine ⟨?_, by omega⟩
        rw [← hc.2, Lib.itoa, if_neg (by omega)]
      · rw [if_neg hc] at h; cases h
    all_goals (rw [ha] at h; cases h)
  · rintro ⟨rfl, hv⟩
    unfold numL
    rw [atoi_dec hv]
    simp only
    rw [if_pos ⟨by omega, Lib.itoa_nonneg v⟩]
    rfl
theorem dig_dec : ∀ v t, v ≤ 9223372036854775807 → ∀ f, f = hd0 (Lib.decDigits v) → digF f (Lib.decDigits v ++ t) 0 0 = digF f t (Lib.decDigits v).length v := by
  intro v
  induction v using Nat.strongRecOn with
  | ind v ih =>
    intro t hv f hf
    by_cases h : v < 10
    · have e : Lib.decDigits v = [UInt8.ofNat (48 + v)] := by rw [Lib.decDigits, dif_pos h]
      rw [e]
      show digF f (UInt8.ofNat (48 + v) :: t) 0 0 = digF f t 1 v
      rw [digF]
      unfold isD
      rw [isD_of h, if_pos (by simp; omega), if_neg (by simp)]
      rw [show 10 * 0 + (48 + v - 48) = v by omega]
    · have e : Lib.decDigits v = Lib.decDigits (v / 10) ++ [UInt8.ofNat (48 + v % 10)] := by rw [Lib.decDigits, dif_neg h]
      have hf2 : f = hd0 (Lib.decDigits (v / 10)) := by rw [hf, e, hd0_app (dec_ne _)]
      rw [e, List.append_assoc, ih (v / 10) (by omega) _ (by omega) f hf2]
      show digF f (UInt8.ofNat (48 + v % 10) :: t) _ (v / 10) = _
      have hone : ¬ ((Lib.decDigits (v / 10)).length = 1 ∧ f = 48) := by
        rintro ⟨h1, h2⟩
        by_cases h10 : v / 10 < 10
        · rw [Lib.decDigits, dif_pos h10] at hf2
          have : f = 48 + v / 10 := by rw [hf2]; exact isD_of h10
          omega
        · rw [Lib.decDigits, dif_neg h10, List.length_append, List.length_singleton] at h1
          have := List.length_pos_iff.2 (dec_ne (v / 10 / 10))
          omega
      rw [digF]
      unfold isD
      rw [isD_of (by omega), if_pos (by simp; omega), if_neg (by simp only [Bool.or_eq_true, Bool.and_eq_true, decide_eq_true_eq]; omega)]
      rw [show 10 * (v / 10) + (48 + v % 10 - 48) = v by omega, List.length_append]
      rfl
theorem digF_sound : ∀ (l : List UInt8) (b : List UInt8) (v : Nat) (f : Nat), b ≠ [] → b = Lib.decDigits v → v ≤ 9223372036854775807 → f = hd0 b → (digF f l b.length v).2 ≠ 0 →
    ∃ k w, digF f l b.length v = (w, b.length + k) ∧ k ≤ l.length ∧ b ++ l.take k = Lib.decDigits w ∧ w ≤ 9223372036854775807 ∧ (∀ c r, l.drop k = c :: r → isD c = false) := by
  intro l
  induction l with
  | nil => intro b v f hb hv hm hf h; exact ⟨0, v, rfl, Nat.le_refl _, by simp [hv], hm, fun c r e => by simp at e⟩
  | cons c l ih =>
    intro b v f hb hv hm hf h
    rw [digF] at h ⊢
    by_cases hd : isD c = true
    · rw [if_pos hd] at h ⊢
      by_cases hc : (decide ((9223372036854775807 - (c.toNat - 48)) / 10 < v) || decide (b.length = 1) && decide (f = 48)) = true
      · rw [if_pos hc] at h; exact absurd rfl h
      · rw [if_neg hc] at h ⊢
        simp only [Bool.or_eq_true, Bool.and_eq_true, decide_eq_true_eq] at hc
        have hdd : 48 ≤ c.toNat ∧ c.toNat ≤ 57 := by unfold isD at hd; simpa using hd
        have hv1 : 1 ≤ v := by
          rcases Nat.eq_zero_or_pos v with hz | hz
          · exfalso
            have : b = [UInt8.ofNat 48] := by rw [hv, hz, Lib.decDigits, dif_pos (by omega)]
            apply hc
            right
            rw [hf, this]
            exact ⟨rfl, rfl⟩
          · exact hz
        have hb2 : b ++ [c] = Lib.decDigits (10 * v + (c.toNat - 48)) := by
          rw [Lib.decDigits, dif_neg (by omega), show (10 * v + (c.toNat - 48)) / 10 = v by omega, show (10 * v + (c.toNat - 48)) % 10 = c.toNat - 48 by omega, ← hv]
          congr 2
          apply UInt8.toNat_inj.1
          rw [isD_of (by omega)]
          omega
        have hlen : (b ++ [c]).length = b.length + 1 := by simp
        rw [← hlen] at h ⊢
        obtain ⟨k, w, h1, h2, h3, h4, h5⟩ := ih (b ++ [c]) _ f (by simp) hb2 (by omega) (by rw [hd0_app hb]; exact hf) h
        refine ⟨k + 1, w, by rw [h1, hlen]; congr 1; omega, by simpa using h2, ?_, h4, fun c' r e => h5 c' r (by simpa using e)⟩
        rw [← h3, List.take_succ_cons, List.append_assoc]
        rfl
    · rw [if_neg hd] at h ⊢
      exact ⟨0, v, rfl, Nat.zero_le _, by simp [hv], hm, fun c' r e => by
        simp only [List.drop_zero, List.cons.injEq] at e
        rw [← e.1]; simpa using hd⟩
/-- A number ahead of what is no digit. -/
theorem dig_num (a t : List UInt8) (ht : ∀ c r, t = c :: r → isD c = false) :
    (∃ v, numL a = some v ∧ digS (a ++ t) = (v, a.length) ∧ a ≠ []) ∨ (numL a = none ∧ ((digS (a ++ t)).2 = 0 ∨ (digS (a ++ t)).2 < a.length)) := by
  cases hn : numL a with
  | some v =>
    obtain ⟨rfl, hv⟩ := numL_iff.1 hn
    refine Or.inl ⟨v, rfl, ?_, dec_ne v⟩
    unfold digS
    rw [hd0_app (dec_ne v), dig_dec v t hv _ rfl]
    cases t with
    | nil => rfl
    | cons c r => rw [digF, ht c r rfl]; rfl
  | none =>
    refine Or.inr ⟨rfl, ?_⟩
    by_cases h0 : (digS (a ++ t)).2 = 0
    · exact Or.inl h0
    · right
      unfold digS at h0 ⊢
      cases hat : a ++ t with
      | nil => rw [hat] at h0; exact absurd rfl h0
      | cons c l =>
        rw [hat] at h0
        rw [digF] at h0 ⊢
        by_cases hd : isD c = true
        · rw [if_pos hd, if_neg (by simp)] at h0 ⊢
          have hdd : 48 ≤ c.toNat ∧ c.toNat ≤ 57 := by unfold isD at hd; simpa using hd
          have hb : [c] = Lib.decDigits (10 * 0 + (c.toNat - 48)) := by
            rw [Lib.decDigits, dif_pos (by omega)]
            congr 1
            apply UInt8.toNat_inj.1
            rw [isD_of (by omega)]
            omega
          obtain ⟨k, w, h1, h2, h3, h4, h5⟩ := digF_sound l [c] (10 * 0 + (c.toNat - 48)) (hd0 (c :: l)) (by simp) hb (by omega) rfl h0
          have h1' : digF (hd0 (c :: l)) l (0 + 1) (10 * 0 + (c.toNat - 48)) = (w, [c].length + k) := h1
          rw [h1']
          show 1 + k < a.length
          rcases Nat.lt_or_ge (1 + k) a.length with h6 | h6
          · exact h6
          · exfalso
            have htk : (a ++ t).take (1 + k) = Lib.decDigits w := by
              rw [hat, Nat.add_comm, List.take_succ_cons]; exact h3
            rcases Nat.lt_or_eq_of_le h6 with h7 | h7
            · -- a digit of t
              cases t with
              | nil =>
                rw [List.append_nil] at hat
                have : a.length = l.length + 1 := by rw [hat]; rfl
                omega
              | cons x t =>
                have hx := ht x t rfl
                have hmem : x ∈ Lib.decDigits w := by
                  rw [← htk, List.take_append, List.mem_append]
                  right
                  obtain ⟨j, hj⟩ : ∃ j, 1 + k - a.length = j + 1 := ⟨1 + k - a.length - 1, by omega⟩
                  rw [hj, List.take_succ_cons]
                  exact List.mem_cons_self ..
                have := dec_digits w x hmem
                unfold isD at hx
                simp at hx
                omega
            · rw [← h7, List.take_left'] at htk
              · rw [numL_iff.2 ⟨htk, h4⟩] at hn; cases hn
              · rfl
        · rw [if_neg hd] at h0; exact absurd rfl h0
/-- Parts between dots. -/
def splL : List UInt8 → List (List UInt8)
  | [] => [[]]
  | x :: l => if x = 46 then [] :: splL l else match splL l with
    | p :: ps => (x :: p) :: ps
    | [] => [[x]]
theorem splL_none {l : List UInt8} (h : 46 ∉ l) : splL l = [l] := by
  induction l with
  | nil => rfl
  | cons x l ih =>
    simp only [List.mem_cons, not_or] at h
    unfold splL
    rw [if_neg (fun e => h.1 e.symm), ih h.2]
theorem splL_app {a l : List UInt8} (h : 46 ∉ a) : splL (a ++ 46 :: l) = a :: splL l := by
  induction a with
  | nil => rw [List.nil_append, splL, if_pos rfl]
  | cons x a ih =>
    simp only [List.mem_cons, not_or] at h
    rw [List.cons_append, splL, if_neg (fun e => h.1 e.symm), ih h.2]
/-- Parts put together again, a dot ahead of each. -/
def dotL (ps : List (List UInt8)) : List UInt8 := ps.flatMap fun p => 46 :: p
theorem splL_dot (a : List UInt8) (ps : List (List UInt8)) (ha : 46 ∉ a) (hp : ∀ p ∈ ps, 46 ∉ p) : splL (a ++ dotL ps) = a :: ps := by
  induction ps generalizing a with
  | nil => rw [show dotL [] = [] from rfl, List.append_nil, splL_none ha]
  | cons p ps ih =>
    rw [show dotL (p :: ps) = 46 :: (p ++ dotL ps) from rfl, splL_app ha, ih p (hp p (List.mem_cons_self ..)) (fun q hq => hp q (List.mem_cons_of_mem _ hq))]
theorem splL_parts : ∀ l : List UInt8, ∃ a ps, splL l = a :: ps ∧ l = a ++ dotL ps ∧ 46 ∉ a ∧ ∀ p ∈ ps, 46 ∉ p := by
  intro l
  induction l with
  | nil => exact ⟨[], [], rfl, rfl, by simp, by simp⟩
  | cons x l ih =>
    obtain ⟨a, ps, h1, h2, h3, h4⟩ := ih
    by_cases hx : x = 46
    · refine ⟨[], a :: ps, by rw [splL, if_pos hx, h1], by rw [hx, h2]; rfl, by simp, fun p hp => ?_⟩
      rcases List.mem_cons.1 hp with rfl | hp
      · exact h3
      · exact h4 p hp
    · refine ⟨x :: a, ps, by rw [splL, if_neg hx, h1], by rw [h2]; rfl, ?_, h4⟩
      simp only [List.mem_cons, not_or]
      exact ⟨fun e => hx e.symm, h3⟩
def stepL (p : List UInt8) : Option Int := if p = [42] then some (-1) else (numL p).map fun v => (v : Int)
def stepsL : List (List UInt8) → Option (List Int)
  | [] => some []
  | p :: ps => (stepL p).bind fun k => (stepsL ps).map fun ks => k :: ks
/-- A place's text read: place.Read. -/
def rdL (l : List UInt8) : Option Pl := match l with
  | 95 :: r => match splL r with
    | a :: ps => if 8 < ps.length then none else (numL a).bind fun v => (stepsL ps).map fun ks => ⟨v, ks⟩
    | [] => none
  | _ => none
/-- The rest of a text, step by step: loanwordref09.Read's loop. -/
def rrF : Nat → List UInt8 → List Int → Option (List Int)
  | 0, _, _ => none
  | f + 1, s, out => match s with
    | [] => some out
    | c :: t => if c ≠ 46 ∨ t = [] ∨ 8 ≤ out.length then none else
      if hd0 t = 42 then rrF f (t.drop 1) (out ++ [-1]) else if (digS t).2 = 0 then none else rrF f (t.drop (digS t).2) (out ++ [((digS t).1 : Int)])
def rrL (l : List UInt8) : Option Pl := match l with
  | 95 :: r => if (digS r).2 = 0 then none else (rrF (r.length + 1) (r.drop (digS r).2) []).map fun ks => ⟨(digS r).1, ks⟩
  | _ => none
theorem dot_head (ps : List (List UInt8)) : ∀ c r, dotL ps = c :: r → isD c = false := by
  intro c r h
  cases ps with
  | nil => cases h
  | cons p ps =>
    have h2 : (46 : UInt8) :: (p ++ dotL ps) = c :: r := h
    have e := (List.cons.inj h2).1
    rw [← e]
    decide
theorem rrF_bad {f : Nat} {c : UInt8} {t : List UInt8} {out : List Int} (h : c ≠ 46) : rrF f (c :: t) out = none := by
  cases f with
  | zero => rfl
  | succ f => rw [rrF]; (try simp only); rw [if_pos (Or.inl h)]
theorem rrF_dot : ∀ (ps : List (List UInt8)) (f : Nat) (out : List Int), (∀ p ∈ ps, 46 ∉ p) → (dotL ps).length < f → rrF f (dotL ps) out = if 8 < out.length + ps.length ∧ ps ≠ [] then none else (stepsL ps).map (out ++ ·) := by
  intro ps
  induction ps with
  | nil =>
    intro f out _ hf
    cases f with
    | zero => simp [dotL] at hf
    | succ f => simp [dotL, rrF, stepsL]
  | cons p ps ih =>
    intro f out hp hf
    have hp0 := hp p (List.mem_cons_self ..)
    have hps := fun q hq => hp q (List.mem_cons_of_mem _ hq)
    have e : dotL (p :: ps) = 46 :: (p ++ dotL ps) := rfl
    have hlen : (dotL (p :: ps)).length = p.length + (dotL ps).length + 1 := by rw [e]; simp
    cases f with
    | zero => omega
    | succ f =>
      rw [e, rrF]
      (try simp only)
      have hne : p :: ps ≠ [] := by simp
      by_cases hbig : 8 ≤ out.length
      · rw [if_pos (Or.inr (Or.inr hbig)), if_pos ⟨by rw [List.length_cons]; omega, hne⟩]
      · -- the step
        have hgo : ∀ (k : Int) (f' : Nat), (dotL ps).length < f' → stepL p = some k → rrF f' (dotL ps) (out ++ [k]) = if 8 < out.length + (p :: ps).length ∧ p :: ps ≠ [] then none else (stepsL (p :: ps)).map (out ++ ·) := by
          intro k f' hf' hk
          rw [ih f' (out ++ [k]) hps hf', List.length_append, List.length_singleton, List.length_cons]
          rw [show stepsL (p :: ps) = (stepsL ps).map (fun ks => k :: ks) by rw [stepsL, hk]; rfl]
          cases ps with
          | nil =>
            rw [if_neg (by simp), if_neg (by rintro ⟨h, -⟩; simp at h; omega)]
            simp [stepsL]
          | cons q qs =>
            by_cases hb : 8 < out.length + ((q :: qs).length + 1)
            · rw [if_pos ⟨by omega, by simp⟩, if_pos ⟨hb, by simp⟩]
            · rw [if_neg (by rintro ⟨h, -⟩; omega), if_neg (by rintro ⟨h, -⟩; exact hb h)]
              cases stepsL (q :: qs) <;> simp
        have hno : stepL p = none → (if 8 < out.length + (p :: ps).length ∧ p :: ps ≠ [] then none else (stepsL (p :: ps)).map (out ++ ·)) = (none : Option (List Int)) := by
          intro hk
          rw [show stepsL (p :: ps) = none by rw [stepsL, hk]; rfl]
          split <;> rfl
        by_cases hnil : p ++ dotL ps = []
        · rw [if_pos (Or.inr (Or.inl hnil))]
          have h1 : p = [] := (List.append_eq_nil_iff.1 hnil).1
          exact (hno (by rw [h1]; rfl)).symm
        · rw [if_neg (by rintro (h | h | h); exact h rfl; exact hnil h; exact hbig h)]
          by_cases hs : hd0 (p ++ dotL ps) = 42
          · rw [if_pos hs]
            cases p with
            | nil =>
              exfalso
              rw [List.nil_append] at hs hnil
              cases ps with
              | nil => exact hnil rfl
              | cons q qs => exact absurd hs (by show ¬ (46 : UInt8).toNat = 42; decide)
            | cons x p =>
              have hx : x = 42 := by
                apply UInt8.toNat_inj.1
                exact hs
              subst hx
              cases p with
              | nil =>
                show rrF f (dotL ps) (out ++ [-1]) = _
                exact hgo (-1) f (by rw [hlen] at hf; omega) rfl
              | cons y p =>
                show rrF f (y :: (p ++ dotL ps)) (out ++ [-1]) = _
                rw [rrF_bad (fun e => hp0 (by rw [e]; simp))]
                refine (hno ?_).symm
                unfold stepL
                rw [if_neg (by simp)]
                cases hn : numL (42 :: y :: p) with
                | none => rfl
                | some v =>
                  have := dec_digits v 42 (by rw [← (numL_iff.1 hn).1]; exact List.mem_cons_self ..)
                  exact absurd this.1 (by decide)
          · rw [if_neg hs]
            have hstar : p ≠ [42] := by
              rintro rfl
              exact hs rfl
            have hst : stepL p = (numL p).map fun v => (v : Int) := by unfold stepL; rw [if_neg hstar]
            rcases dig_num p (dotL ps) (dot_head ps) with ⟨v, h1, h2, h3⟩ | ⟨h1, h2⟩
            · rw [h2]
              (try simp only)
              rw [if_neg (by have := List.length_pos_iff.2 h3; omega), List.drop_left']
              · exact hgo (v : Int) f (by rw [hlen] at hf; omega) (by rw [hst, h1]; rfl)
              · rfl
            · rw [hno (by rw [hst, h1]; rfl)]
              by_cases h0 : (digS (p ++ dotL ps)).2 = 0
              · rw [if_pos h0]
              · rw [if_neg h0]
                have hlt : (digS (p ++ dotL ps)).2 < p.length := by rcases h2 with h | h; exact absurd h h0; exact h
                rw [List.drop_append_of_le_length (by omega)]
                cases hd : p.drop (digS (p ++ dotL ps)).2 with
                | nil =>
                  have := congrArg List.length hd
                  rw [List.length_drop] at this
                  simp at this
                  omega
                | cons y r =>
                  rw [List.cons_append]
                  refine rrF_bad (fun e => hp0 ?_)
                  rw [← e]
                  exact List.mem_of_mem_drop (by rw [hd]; exact List.mem_cons_self ..)
theorem rd_rr (l : List UInt8) : rrL l = rdL l := by
  unfold rrL rdL
  match l with
  | [] => rfl
  | c :: r =>
    by_cases hc : c = 95
    · subst hc
      simp only
      obtain ⟨a, ps, h1, h2, h3, h4⟩ := splL_parts r
      rw [h1]
      simp only
      rcases dig_num a (dotL ps) (dot_head ps) with ⟨v, g1, g2, g3⟩ | ⟨g1, g2⟩
      · rw [h2, g2]
        simp only
        rw [if_neg (by have := List.length_pos_iff.2 g3; omega), List.drop_left' rfl, rrF_dot ps _ [] h4 (by rw [List.length_append]; omega), g1]
        simp only [List.length_nil, Nat.zero_add, Option.bind_some]
        by_cases hb : 8 < ps.length
        · rw [if_pos ⟨hb, fun e => by rw [e] at hb; simp at hb⟩, if_pos hb]; rfl
        · rw [if_neg (fun h => hb h.1), if_neg hb]
          cases stepsL ps <;> rfl
      · rw [g1]
        have hR : (if 8 < ps.length then none else (none : Option Nat).bind fun v => (stepsL ps).map fun ks => (⟨v, ks⟩ : Pl)) = none := by split <;> rfl
        rw [hR, h2]
        by_cases h0 : (digS (a ++ dotL ps)).2 = 0
        · rw [if_pos h0]
        · rw [if_neg h0]
          have hlt : (digS (a ++ dotL ps)).2 < a.length := by rcases g2 with h | h; exact absurd h h0; exact h
          rw [List.drop_append_of_le_length (by omega)]
          cases hd : a.drop (digS (a ++ dotL ps)).2 with
          | nil =>
            have := congrArg List.length hd
            rw [List.length_drop] at this
            simp at this
            omega
          | cons y r =>
            rw [List.cons_append, rrF_bad (fun e => h3 ?_)]
            · rfl
            · rw [← e]
              exact List.mem_of_mem_drop (by rw [hd]; exact List.mem_cons_self ..)
    · (try simp only)
      split
      · rename_i h; exact absurd (List.cons.inj h).1 hc
      · rfl
/-- A place's text. -/
def tailT (k : Int) : List UInt8 := if k = -1 then [42] else Lib.itoa k
def badP (p : Pl) : Bool := decide (p.loc < 0) || p.path.any fun k => decide (k < -1)
def textP (p : Pl) : List UInt8 := if badP p = true then [] else 95 :: (Lib.itoa p.loc ++ dotL (p.path.map tailT))
theorem itoa_dot {k : Int} (h : 0 ≤ k) : 46 ∉ Lib.itoa k := by
  unfold Lib.itoa
  rw [if_neg (by omega)]
  intro hm
  have := dec_digits _ _ hm
  exact absurd this.1 (by decide)
theorem tail_dot {k : Int} (h : -1 ≤ k) : 46 ∉ tailT k := by
  unfold tailT
  split
  · decide
  · exact itoa_dot (by omega)
theorem num_itoa {k : Int} (h : 0 ≤ k) (h2 : k ≤ 9223372036854775807) : numL (Lib.itoa k) = some k.toNat := numL_iff.2 ⟨by unfold Lib.itoa; rw [if_neg (by omega)], by omega⟩
theorem step_tail {k : Int} (h : -1 ≤ k) (h2 : k ≤ 9223372036854775807) : stepL (tailT k) = some k := by
  unfold tailT
  split
  · rename_i e; rw [e]; rfl
  · unfold stepL
    rw [if_neg]
    · rw [num_itoa (by omega) h2]
      show some ((k.toNat : Nat) : Int) = some k
      congr 1
      omega
    · intro e
      unfold Lib.itoa at e
      rw [if_neg (by omega)] at e
      have := dec_digits k.toNat 42 (by rw [e]; simp)
      exact absurd this.1 (by decide)
theorem steps_tail : ∀ l : List Int, (∀ k ∈ l, -1 ≤ k ∧ k ≤ 9223372036854775807) → stepsL (l.map tailT) = some l := by
  intro l
  induction l with
  | nil => intro _; rfl
  | cons k l ih =>
    intro h
    rw [List.map_cons, stepsL, step_tail (h k (List.mem_cons_self ..)).1 (h k (List.mem_cons_self ..)).2, ih (fun x hx => h x (List.mem_cons_of_mem _ hx))]
    rfl
/-- What is told is read again. -/
theorem text_back (p : Pl) (hb : badP p = false) (h1 : p.loc ≤ 9223372036854775807) (h2 : ∀ k ∈ p.path, k ≤ 9223372036854775807) : rdL (textP p) = if 8 < p.path.length then none else some p := by
  unfold badP at hb
  simp only [Bool.or_eq_false_iff, decide_eq_false_iff_not, List.any_eq_false, decide_eq_true_eq] at hb
  obtain ⟨b1, b2⟩ := hb
  have hs : ∀ k ∈ p.path, -1 ≤ k ∧ k ≤ 9223372036854775807 := fun k hk => ⟨by have := b2 k hk; omega, h2 k hk⟩
  have e : textP p = 95 :: (Lib.itoa p.loc ++ dotL (p.path.map tailT)) := by
    unfold textP
    rw [if_neg]
    unfold badP
    simp only [Bool.or_eq_true, decide_eq_true_eq, List.any_eq_true, not_or, not_exists, not_and]
    exact ⟨b1, fun k hk => b2 k hk⟩
  rw [e, rdL]
  (try simp only)
  rw [splL_dot _ _ (itoa_dot (by omega)) (fun q hq => by
    obtain ⟨k, hk, rfl⟩ := List.mem_map.1 hq
    exact tail_dot (hs k hk).1)]
  simp only [List.length_map]
  rw [num_itoa (by omega) h1, steps_tail _ hs]
  split
  · rfl
  · show some (⟨((p.loc.toNat : Nat) : Int), p.path⟩ : Pl) = some p
    congr 1
    obtain ⟨a, b⟩ := p
    simp only at b1 ⊢
    congr 1
    omega
theorem step_text {p : List UInt8} {k : Int} (h : stepL p = some k) : p = tailT k ∧ -1 ≤ k := by
  unfold stepL at h
  split at h
  · rename_i e
    cases h
    exact ⟨by rw [e]; rfl, by omega⟩
  · cases hn : numL p with
    | none => rw [hn] at h; cases h
    | some v =>
      rw [hn] at h
      have e : ((v : Nat) : Int) = k := Option.some.inj h
      subst e
      refine ⟨?_, by omega⟩
      unfold tailT
      rw [if_neg (by omega), Lib.itoa_nonneg]
      exact (numL_iff.1 hn).1
theorem steps_text : ∀ (ps : List (List UInt8)) (l : List Int), stepsL ps = some l → ps = l.map tailT ∧ ∀ k ∈ l, -1 ≤ k := by
  intro ps
  induction ps with
  | nil => intro l h; cases h; exact ⟨rfl, by simp⟩
  | cons p ps ih =>
    intro l h
    rw [stepsL] at h
    cases hk : stepL p with
    | none => rw [hk] at h; cases h
    | some k =>
      rw [hk] at h
      cases hs : stepsL ps with
      | none => rw [hs] at h; cases h
      | some ks =>
        rw [hs] at h
        cases h
        obtain ⟨e1, e2⟩ := step_text hk
        obtain ⟨f1, f2⟩ := ih ks hs
        refine ⟨by rw [List.map_cons, ← e1, ← f1], fun x hx => ?_⟩
        rcases List.mem_cons.1 hx with rfl | hx
        · exact e2
        · exact f2 x hx
/-- What is read is told as it was. -/
theorem read_text {l : List UInt8} {p : Pl} (h : rdL l = some p) : textP p = l := by
  unfold rdL at h
  cases l with
  | nil => cases h
  | cons c r =>
    by_cases hc : c = 95
    case neg =>
      (try simp only at h)
      split at h
      · rename_i e; exact absurd (List.cons.inj e).1 hc
      · cases h
    subst hc
    (try simp only at h)
    obtain ⟨a, ps, h1, h2, h3, h4⟩ := splL_parts r
    rw [h1] at h
    (try simp only at h)
    split at h
    · cases h
    · cases hn : numL a with
      | none => rw [hn] at h; cases h
      | some v =>
        rw [hn] at h
        cases hs : stepsL ps with
        | none => rw [hs] at h; cases h
        | some ks =>
          rw [hs] at h
          cases h
          obtain ⟨f1, f2⟩ := steps_text ps ks hs
          unfold textP
          rw [if_neg]
          · (try simp only)
            rw [Lib.itoa_nonneg, ← (numL_iff.1 hn).1, ← f1, h2]
          · unfold badP
            simp only [Bool.or_eq_true, decide_eq_true_eq, List.any_eq_true, not_or, not_exists, not_and]
            exact ⟨by omega, fun k hk => by have := f2 k hk; omega⟩
end Go.Proofs.YtpigppghcghpbaaGreatDoor

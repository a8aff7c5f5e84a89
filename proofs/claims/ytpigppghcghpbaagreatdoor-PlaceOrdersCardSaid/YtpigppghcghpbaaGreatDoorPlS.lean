/- place.Read, plain, part by part. -/
import Derived.Test.YtpigppghcghpbaaGreatDoorPlC
namespace Go.Proofs.YtpigppghcghpbaaGreatDoor

def rdK (pl : List (List UInt8)) : Nat → Option Pl
  | 0 => some ⟨0, []⟩
  | k + 1 => (rdK pl k).bind fun p => if k = 0 then (numL (pl.getD 0 [])).map fun (v : Nat) => (⟨(v : Int), []⟩ : Pl) else (stepL (pl.getD k [])).map fun x => ⟨p.loc, p.path ++ [x]⟩
theorem rdK_none {pl : List (List UInt8)} {k : Nat} (h : rdK pl k = none) : ∀ m, k ≤ m → rdK pl m = none := by
  intro m
  induction m with
  | zero => intro hm; obtain rfl : k = 0 := by omega
            exact h
  | succ m ih =>
    intro hm
    by_cases hk : k = m + 1
    · rw [← hk]; exact h
    · rw [rdK, ih (by omega)]; rfl
theorem stepsL_snoc : ∀ (ps : List (List UInt8)) (p : List UInt8), stepsL (ps ++ [p]) = (stepsL ps).bind fun ks => (stepL p).map fun k => ks ++ [k] := by
  intro ps p
  induction ps with
  | nil => cases h : stepL p <;> simp [stepsL, h]
  | cons q ps ih =>
    rw [List.cons_append, stepsL, stepsL, ih]
    cases stepL q <;> cases stepsL ps <;> cases stepL p <;> rfl
theorem rdK_steps (a : List UInt8) (ps : List (List UInt8)) : ∀ j, j ≤ ps.length → rdK (a :: ps) (j + 1) = (numL a).bind fun v => (stepsL (ps.take j)).map fun ks => ⟨(v : Int), ks⟩ := by
  intro j
  induction j with
  | zero => intro _; rw [rdK, rdK]; cases h : numL a <;> simp [h, stepsL]
  | succ j ih =>
    intro hj
    rw [rdK, ih (by omega)]
    simp only [show (j + 1 = 0) = False from by simp, if_false]
    have e : ps.take (j + 1) = ps.take j ++ [(a :: ps).getD (j + 1) []] := by
      rw [List.take_add_one, List.getElem?_eq_getElem (by omega)]
      simp [List.getD_eq_getElem?_getD, List.getElem?_eq_getElem (show j < ps.length by omega)]
    rw [e, stepsL_snoc]
    cases numL a <;> cases stepsL (ps.take j) <;> cases stepL ((a :: ps).getD (j + 1) []) <;> rfl
theorem rdL_rdK (r : List UInt8) : rdL (95 :: r) = if 9 < (splL r).length then none else rdK (splL r) (splL r).length := by
  rw [rdL]
  obtain ⟨a, ps, h, -⟩ := splL_parts r
  rw [h]
  simp only [List.length_cons]
  rw [rdK_steps a ps ps.length (Nat.le_refl _), List.take_length]
  by_cases h8 : 8 < ps.length
  · rw [if_pos h8, if_pos (by omega)]
  · rw [if_neg h8, if_neg (by omega)]
theorem rdL_no {l : List UInt8} (h : ∀ r, l ≠ 95 :: r) : rdL l = none := by
  unfold rdL
  split
  · rename_i r; exact absurd rfl (h r)
  · rfl
def rdP (o : Option Pl) : Pl := o.getD ⟨0, []⟩
def rdE (o : Option Pl) : Int := if o.isSome then 0 else 90
end Go.Proofs.YtpigppghcghpbaaGreatDoor

/- strings.Split at a dot: the parts between dots. Plain. -/
import Derived.Test.YtpigppghcghpbaaGreatDoorPlB
namespace Go.Proofs.YtpigppghcghpbaaGreatDoor

theorem index_none {l : List UInt8} (h : 46 ∉ l) : Lib.index l [46] = -1 := by
  induction l with
  | nil => rfl
  | cons x l ih =>
    simp only [List.mem_cons, not_or] at h
    have hp : List.isPrefixOf [46] (x :: l) = false := by
      simp [List.isPrefixOf]
      exact fun e => h.1 e
    rw [Lib.index, hp, ih h.2]
    rfl
theorem index_at {a r : List UInt8} (h : 46 ∉ a) : Lib.index (a ++ 46 :: r) [46] = (a.length : Nat) := by
  induction a with
  | nil => rfl
  | cons x a ih =>
    simp only [List.mem_cons, not_or] at h
    have hp : List.isPrefixOf [46] (x :: (a ++ 46 :: r)) = false := by
      simp [List.isPrefixOf]
      exact fun e => h.1 e
    rw [List.cons_append, Lib.index, hp, ih h.2]
    rw [if_neg (by simp), if_neg (by simp), List.length_cons]
    omega
theorem splitK_spl : ∀ (k : Nat) (l : List UInt8), l.count 46 = k → Lib.splitK [46] 0 k l = splL l := by
  intro k
  induction k with
  | zero =>
    intro l h
    have hn : 46 ∉ l := List.count_eq_zero.1 h
    rw [splL_none hn]
    rfl
  | succ k ih =>
    intro l h
    obtain ⟨a, ps, h1, h2, h3, h4⟩ := splL_parts l
    cases ps with
    | nil =>
      rw [show dotL [] = [] from rfl, List.append_nil] at h2
      rw [h2, List.count_eq_zero.2 h3] at h
      omega
    | cons p ps =>
      have e : l = a ++ 46 :: (p ++ dotL ps) := h2
      have hi := index_at (r := p ++ dotL ps) h3
      rw [← e] at hi
      rw [Lib.splitK, hi, if_neg (by simp), h1]
      have hc : (p ++ dotL ps).count 46 = k := by
        rw [e, List.count_append, List.count_eq_zero.2 h3, List.count_cons_self] at h
        omega
      have hd : l.drop (((a.length : Nat) : Int).toNat + [(46 : UInt8)].length) = p ++ dotL ps := by
        rw [e, Int.toNat_natCast]
        show (a ++ 46 :: (p ++ dotL ps)).drop (a.length + 1) = _
        rw [List.drop_append, List.drop_of_length_le (by omega)]
        rw [show a.length + 1 - a.length = 1 by omega]
        rfl
      have ht : l.take (((a.length : Nat) : Int).toNat + 0) = a := by
        rw [e, Int.toNat_natCast, Nat.add_zero, List.take_left' rfl]
      rw [hd, ht, ih _ hc, splL_dot p ps (h4 p (List.mem_cons_self ..)) (fun q hq => h4 q (List.mem_cons_of_mem _ hq))]
def dotB : ByteArray := ⟨#[46]⟩
theorem split_dot (s : ByteArray) : (Lib.splitB dotB 0 (Lib.countB s dotB) s).map (·.data.toList) = splL s.data.toList := by
  rw [Lib.splitB_data]
  show Lib.splitK [46] 0 (Lib.count s.data.toList [46]) s.data.toList = _
  rw [Lib.count_one]
  exact splitK_spl _ _ rfl
end Go.Proofs.YtpigppghcghpbaaGreatDoor

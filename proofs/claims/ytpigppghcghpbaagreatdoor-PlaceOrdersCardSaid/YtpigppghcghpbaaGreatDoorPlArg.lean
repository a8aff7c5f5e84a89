/- A place among a row's arguments. -/
import Derived.Test.YtpigppghcghpbaaGreatDoorPlRow
import Derived.Test.YtpigppghcghpbaaGreatDoorPlR
namespace Go.Proofs.YtpigppghcghpbaaGreatDoor
open Go.ChangeShapes Go.WideShapes Go.ChangeAt Go.RowKit Go.ChangeMaps

theorem Tryz.cellsStep : Tryz.prog.cellsOf 56 = 1 := by kernel_rfl
theorem Tryz.cellsPlace : Tryz.prog.cellsOf 26 = 2 := by kernel_rfl
section
variable {H : Type} {enc : TypeId × Value → H} {W : World}

theorem steps_of {n : Nat} {cs : List Value} {y : DataW H × List MemPlace} (h : DataW.trod enc Tryz.prog W 0 (fun _ => true) true n 24 cs = some y) :
    ∃ (a : Option Addr) (xs : List Int) (cap : Nat), cs = [.slice a xs.length cap] ∧ IntsAt W a xs ∧ (∀ x ∈ xs, In64 x) ∧ xs.length ≤ cap ∧ cap ≤ maxLen := by
  rcases open_ints Tryz.underlying24 Tryz.underlying56 Tryz.cellsStep h with ⟨rfl, -⟩ | ⟨a, len, cap, zs, rfl, -, hl, hm, hz, -, hcell, hwz⟩
  · exact ⟨none, [], 0, rfl, fun k hk => by simp at hk, (fun x hx => by cases hx), Nat.le_refl _, by unfold maxLen; omega⟩
  · simp only [if_true] at hz
    refine ⟨some a, zs.take len, cap, by rw [List.length_take, Nat.min_eq_left (by omega)], ?_, (fun x hx => by have := wf_i64 (hwz x (List.mem_of_mem_take hx)); exact ⟨by omega, by omega⟩), by rw [List.length_take]; omega, hm⟩
    intro k hk
    rw [List.length_take, Nat.min_eq_left (by omega)] at hk
    obtain ⟨b, off, spot⟩ := a
    have hspot : spot = none := by simpa [Addr.add] using World.cell?_spot (hcell 0 (by omega))
    subst hspot
    refine ⟨b, off, rfl, ?_⟩
    have := hcell k (by omega)
    rw [add_plain] at this
    rw [this]
    congr 2
    simp [List.getD_eq_getElem?_getD, hk]
set_option maxRecDepth 100000 in
/-- A place's two cells. -/
theorem place_of {n : Nat} {cs : List Value} {y : DataW H × List MemPlace} (h : DataW.trod enc Tryz.prog W 0 (fun _ => true) true n 26 cs = some y) :
    ∃ (p : Pl) (a : Option Addr) (c : Nat), cs = [.int .i64 p.loc, .slice a p.path.length c] ∧ IntsAt W a p.path ∧ p.path.length ≤ c ∧ c ≤ maxLen ∧ Pl64 p := by
  obtain ⟨xs, m, -, -, hl, hlen, hf⟩ := DataW.trod_struct Tryz.underlying26 h
  rw [Tryz.cellsPlace] at hl
  match cs, hl with
  | [c0, c1], _ =>
  match xs, hlen with
  | [x0, x1], _ =>
  have f0 := hf 0 _ rfl
  have f1 := hf 1 _ rfl
  have z1 : Tryz.prog.cellsOf 3 = 1 := by kernel_rfl
  have z2 : Tryz.prog.cellsOf 24 = 1 := by kernel_rfl
  simp only [List.getElem_toArray, List.getElem_cons_zero, List.getElem_cons_succ, z1, z2, List.drop_zero, List.drop_succ_cons, List.take_succ_cons, List.take_zero, List.getElem?_cons_zero, List.getElem?_cons_succ] at f0 f1
  obtain ⟨n0, e0, -, w0⟩ := DataW.trod_int Tryz.underlying3 f0
  obtain ⟨la, l, lc, e1, hi, hb, hc, hm⟩ := steps_of f1
  simp only [List.cons.injEq, and_true] at e0 e1
  subst e0 e1
  have b0 := wf_i64 w0
  exact ⟨⟨n0, l⟩, la, lc, rfl, hi, hc, hm, ⟨by show -9223372036854775808 ≤ n0; omega, by show n0 ≤ 9223372036854775807; omega⟩, hb⟩
set_option maxRecDepth 100000 in
/-- A place among the arguments. -/
theorem arg_place {v : Value} {d : DataW H} {p : List MemPlace} {base : Nat} (hok : Value.okWide Tryz.prog W .any base 26 v)
    (h : DataW.Trod enc Tryz.prog W 0 (fun _ => true) true 26 v d p) :
    ∃ (q : Pl) (a : Option Addr) (c : Nat), v = plV q a c ∧ IntsAt W a q.path ∧ q.path.length ≤ c ∧ Pl64 q := by
  obtain ⟨cs, rfl, -⟩ := okWide_struct Tryz.underlying26 hok
  obtain ⟨fuel, hf⟩ := h
  obtain ⟨q, a, c, hcs, h1, h2, h3, h4⟩ := place_of hf
  refine ⟨q, a, c, ?_, h1, h2, h4⟩
  have : cs.toList = [.int .i64 q.loc, .slice a q.path.length c] := hcs
  unfold plV
  cases cs
  simp at this
  subst this
  rfl
end
end Go.Proofs.YtpigppghcghpbaaGreatDoor

/- A list of tokens as an argument. -/
import Derived.Test.YtcbifoimfhfccaaGreatDoorLexRow
import Derived.Test.YtcbifoimfhfccaaGreatDoorLexQ
namespace Go.Proofs.YtcbifoimfhfccaaGreatDoor
open Go.ChangeShapes Go.WideShapes Go.ChangeAt Go.RowKit Go.ChangeMaps

section
variable {H : Type} {enc : TypeId × Value → H} {W : World}
theorem list_of {α : Type} {Q : Nat → α → Prop} {d : α} : ∀ (n : Nat), (∀ k, k < n → ∃ x, Q k x) → ∃ l : List α, l.length = n ∧ ∀ k, k < n → Q k (l.getD k d) := by
  intro n
  induction n with
  | zero => exact fun _ => ⟨[], rfl, fun k hk => absurd hk (Nat.not_lt_zero _)⟩
  | succ n ih =>
    intro h
    obtain ⟨l, hl, hq⟩ := ih (fun k hk => h k (by omega))
    obtain ⟨x, hx⟩ := h n (by omega)
    refine ⟨l ++ [x], by simp [hl], fun k hk => ?_⟩
    rcases Nat.lt_or_eq_of_le (Nat.lt_succ_iff.1 hk) with h1 | rfl
    · have e : (l ++ [x]).getD k d = l.getD k d := by simp [List.getD_eq_getElem?_getD, List.getElem?_append_left (show k < l.length by omega)]
      rw [e]; exact hq k h1
    · have e : (l ++ [x]).getD k d = x := by subst hl; simp [List.getD_eq_getElem?_getD]
      rw [e]; exact hx
theorem wf_u8 {n : Int} (h : (Lit.int .u8 n).wf = true) : 0 ≤ n ∧ n < 256 := by
  simp [Lit.wf] at h
  have e1 : IntKind.u8.min = 0 := rfl
  have e2 : IntKind.u8.max = 255 := rfl
  omega
theorem Tryz.cellsTok : Tryz.prog.cellsOf 27 = 4 := by kernel_rfl
set_option maxRecDepth 100000 in
/-- A token's four cells. -/
theorem tok_of {n : Nat} {cs : List Value} {y : DataW H × List MemPlace} (h : DataW.trod enc Tryz.prog W 0 (fun _ => true) true n 27 cs = some y) :
    ∃ x : Tk, cs = [.int .u8 (x.k : Nat), .int .i64 x.at_, .int .i64 x.n, .string x.s] ∧ -9223372036854775808 ≤ x.n ∧ x.n ≤ 9223372036854775807 := by
  obtain ⟨xs, m, -, -, hl, hlen, hf⟩ := DataW.trod_struct Tryz.underlying27 h
  rw [Tryz.cellsTok] at hl
  match cs, hl with
  | [c0, c1, c2, c3], _ =>
  match xs, hlen with
  | [x0, x1, x2, x3], _ =>
  have f0 := hf 0 _ rfl
  have f1 := hf 1 _ rfl
  have f2 := hf 2 _ rfl
  have f3 := hf 3 _ rfl
  have z0 : Tryz.prog.cellsOf 25 = 1 := by kernel_rfl
  have z1 : Tryz.prog.cellsOf 3 = 1 := by kernel_rfl
  have z2 : Tryz.prog.cellsOf 9 = 1 := by kernel_rfl
  have z4 : Tryz.prog.cellsOf 2 = 1 := by kernel_rfl
  simp only [List.getElem_toArray, List.getElem_cons_zero, List.getElem_cons_succ, z0, z1, z2, z4, List.drop_zero, List.drop_succ_cons, List.take_succ_cons, List.take_zero, List.getElem?_cons_zero, List.getElem?_cons_succ] at f0 f1 f2 f3
  obtain ⟨n0, e0, -, w0⟩ := DataW.trod_int Tryz.underlying25 f0
  obtain ⟨n1, e1, -, w1⟩ := DataW.trod_int Tryz.underlying3 f1
  obtain ⟨n2, e2, -, w2⟩ := DataW.trod_int Tryz.underlying2 f2
  obtain ⟨s, e3, -, w3⟩ := DataW.trod_string Tryz.underlying9 f3
  simp only [List.cons.injEq, and_true] at e0 e1 e2 e3
  subst e0 e1 e2 e3
  have b0 := wf_u8 w0
  have b2 := wf_i64 w2
  refine ⟨⟨n0.toNat, n1, n2, s⟩, ?_, by show -9223372036854775808 ≤ n2; omega, by show n2 ≤ 9223372036854775807; omega⟩
  simp only [show ((n0.toNat : Nat) : Int) = n0 by omega]
set_option maxRecDepth 100000 in
theorem toks_of {n : Nat} {cs : List Value} {y : DataW H × List MemPlace} (h : DataW.trod enc Tryz.prog W 0 (fun _ => true) true n 22 cs = some y) :
    ∃ (a : Option Addr) (ts : List Tk) (cap : Nat), cs = [.slice a ts.length cap] ∧ ToksAt W a ts ∧ ∀ k, k < ts.length → -9223372036854775808 ≤ (ts.getD k tk0).n ∧ (ts.getD k tk0).n ≤ 9223372036854775807 := by
  rcases DataW.trod_slice Tryz.underlying22 h with ⟨rfl, -⟩ | ⟨a, len, cap, elems, rest, m, -, rfl, -, -, hl, hm, hlen, hel, -, -⟩
  · exact ⟨none, [], 0, rfl, fun k hk => by simp at hk, fun k hk => by simp at hk⟩
  have hsp0 : 0 < len → a.spot = none := fun h0 => by
    have hk1 := hel 0 h0
    rw [Tryz.cellsTok, show elems[0]? = some (elems[0]'(by omega)) from List.getElem?_eq_getElem _, Option.bind_eq_some_iff] at hk1
    obtain ⟨cs, hcs, ht⟩ := hk1
    obtain ⟨x, rfl, -⟩ := tok_of ht
    obtain ⟨-, -, hc⟩ := World.cells?_some hcs
    have := World.cell?_spot (hc 0 (by omega))
    simpa [Addr.add] using this
  obtain ⟨ts, htl, hts⟩ := list_of (Q := fun k (x : Tk) => (-9223372036854775808 ≤ x.n ∧ x.n ≤ 9223372036854775807) ∧ ∃ b off, a = ⟨b, off, none⟩ ∧ TkAt W b (off + k * 4) x) (d := tk0) len (fun k hk => by
    have hk1 := hel k hk
    rw [Tryz.cellsTok, show elems[k]? = some (elems[k]'(by omega)) from List.getElem?_eq_getElem _, Option.bind_eq_some_iff] at hk1
    obtain ⟨cs, hcs, ht⟩ := hk1
    obtain ⟨x, rfl, h1, h2⟩ := tok_of ht
    obtain ⟨-, -, hc⟩ := World.cells?_some hcs
    obtain ⟨b, off, spot⟩ := a
    have hspot : spot = none := hsp0 (by omega)
    subst hspot
    have key : ∀ i, Addr.add (Addr.add ⟨b, off, none⟩ (k * 4)) i = ⟨b, off + k * 4 + i, none⟩ := fun i => by rw [add_plain, add_plain]
    refine ⟨x, ⟨h1, h2⟩, b, off, rfl, ?_, ?_, ?_, ?_⟩
    · have := hc 0 (by omega); rw [key] at this; exact this
    · have := hc 1 (by omega); rw [key] at this; exact this
    · have := hc 2 (by omega); rw [key] at this; exact this
    · have := hc 3 (by omega); rw [key] at this; exact this)
  refine ⟨some a, ts, cap, by rw [htl], fun k hk => ?_, fun k hk => (hts k (by omega)).1⟩
  obtain ⟨-, b, off, rfl, ht⟩ := hts k (by omega)
  exact ⟨b, off, rfl, ht⟩
end
end Go.Proofs.YtcbifoimfhfccaaGreatDoor

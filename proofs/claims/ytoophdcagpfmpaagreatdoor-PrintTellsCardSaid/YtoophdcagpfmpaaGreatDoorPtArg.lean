/- A tree, a list of trees, a node among a row's arguments. -/
import Derived.Test.YtoophdcagpfmpaaGreatDoorMg28
namespace Go.Proofs.YtoophdcagpfmpaaGreatDoor
open Go.ChangeShapes Go.WideShapes Go.ChangeAt Go.RowKit Go.ChangeMaps

theorem Tryz.cellsTree : Tryz.prog.cellsOf 24 = 1 := by kernel_rfl
theorem Tryz.cellsNode : Tryz.prog.cellsOf 44 = 5 := by kernel_rfl
theorem Tryz.cellsNodes : Tryz.prog.cellsOf 22 = 1 := by kernel_rfl

section
variable {H : Type} {enc : TypeId × Value → H} {W : World}

theorem list_of {α : Type} {Q : Nat → α → Prop} {d : α} : ∀ (n : Nat), (∀ k, k < n → ∃ x, Q k x) → ∃ l : List α, l.length = n ∧ ∀ k, k < n → Q k (l.getD k d) := by
  intro n
  induction n with
  | zero => exact fun _ => ⟨[], rfl, fun k hk => absurd hk (Nat.not_lt_zero _)⟩
  | succ n ih =>
    intro h
    obtain ⟨l, hl, hq⟩ := ih (fun k hk => h k (by omega))
    obtain ⟨x, hx⟩ := h n (by omega)
    refine ⟨l ++ [x], by simp [hl], fun k hk => ?_⟩
    rcases Nat.lt_or_eq_of_le (Nat.lt_succ_iff.1 hk) with h1 | rfl
    · have e : (l ++ [x]).getD k d = l.getD k d := by simp [List.getD_eq_getElem?_getD, List.getElem?_append_left (show k < l.length by omega)]
      rw [e]; exact hq k h1
    · have e : (l ++ [x]).getD k d = x := by subst hl; simp [List.getD_eq_getElem?_getD]
      rw [e]; exact hx

theorem ints_of {n : Nat} {cs : List Value} {y : DataW H × List MemPlace} (h : DataW.trod enc Tryz.prog W 0 (fun _ => true) true n 42 cs = some y) :
    ∃ (a : Option Addr) (xs : List Int) (cap : Nat), cs = [.slice a xs.length cap] ∧ IntsAt W a xs ∧ (∀ x ∈ xs, -9223372036854775808 ≤ x ∧ x ≤ 9223372036854775807) ∧ xs.length ≤ cap ∧ cap ≤ maxLen := by
  rcases open_ints Tryz.underlying42 Tryz.underlying3 Tryz.cellsInt h with ⟨rfl, -⟩ | ⟨a, len, cap, zs, rfl, -, hl, hm, hz, -, hcell, hwz⟩
  · exact ⟨none, [], 0, rfl, fun k hk => by simp at hk, (fun x hx => by cases hx), Nat.le_refl _, by unfold maxLen; omega⟩
  · simp only [if_true] at hz
    refine ⟨some a, zs.take len, cap, by rw [List.length_take, Nat.min_eq_left (by omega)], ?_, (fun x hx => by have := wf_i64 (hwz x (List.mem_of_mem_take hx)); omega), by rw [List.length_take]; omega, hm⟩
    intro k hk
    rw [List.length_take, Nat.min_eq_left (by omega)] at hk
    obtain ⟨b, off, spot⟩ := a
    have hspot : spot = none := by simpa [Addr.add] using World.cell?_spot (hcell 0 (by omega))
    subst hspot
    refine ⟨b, off, rfl, ?_⟩
    have := hcell k (by omega)
    rw [add_plain] at this
    rw [this]
    congr 2
    simp [List.getD_eq_getElem?_getD, hk]

theorem wf_u8 {n : Int} (h : (Lit.int .u8 n).wf = true) : 0 ≤ n ∧ n < 256 := by
  simp [Lit.wf] at h
  have e1 : IntKind.u8.min = 0 := rfl
  have e2 : IntKind.u8.max = 255 := rfl
  omega

set_option maxRecDepth 100000 in
/-- A node's five cells. -/
theorem node_of {n : Nat} {cs : List Value} {y : DataW H × List MemPlace} (h : DataW.trod enc Tryz.prog W 0 (fun _ => true) true n 44 cs = some y) :
    ∃ (x : Nd) (la : Option Addr) (lc : Nat), cs = [.int .u8 (x.k : Nat), .int .i64 x.at_, .int .i64 x.n, .string x.s, .slice la x.l.length lc] ∧ IntsAt W la x.l ∧ x.l.length ≤ lc ∧ lc ≤ maxLen ∧ NdOk x := by
  obtain ⟨xs, m, -, -, hl, hlen, hf⟩ := DataW.trod_struct Tryz.underlying44 h
  rw [Tryz.cellsNode] at hl
  match cs, hl with
  | [c0, c1, c2, c3, c4], _ =>
  match xs, hlen with
  | [x0, x1, x2, x3, x4], _ =>
  have f0 := hf 0 _ rfl
  have f1 := hf 1 _ rfl
  have f2 := hf 2 _ rfl
  have f3 := hf 3 _ rfl
  have f4 := hf 4 _ rfl
  have z0 : Tryz.prog.cellsOf 41 = 1 := by kernel_rfl
  have z1 : Tryz.prog.cellsOf 3 = 1 := Tryz.cellsInt
  have z2 : Tryz.prog.cellsOf 9 = 1 := by kernel_rfl
  have z3 : Tryz.prog.cellsOf 42 = 1 := by kernel_rfl
  have z4 : Tryz.prog.cellsOf 2 = 1 := by kernel_rfl
  simp only [List.getElem_toArray, List.getElem_cons_zero, List.getElem_cons_succ, z0, z1, z2, z3, z4, List.drop_zero, List.drop_succ_cons, List.take_succ_cons, List.take_zero, List.getElem?_cons_zero, List.getElem?_cons_succ] at f0 f1 f2 f3 f4
  obtain ⟨n0, e0, -, w0⟩ := DataW.trod_int Tryz.underlying41 f0
  obtain ⟨n1, e1, -, w1⟩ := DataW.trod_int Tryz.underlying3 f1
  obtain ⟨n2, e2, -, w2⟩ := DataW.trod_int Tryz.underlying2 f2
  obtain ⟨s, e3, -, w3⟩ := DataW.trod_string Tryz.underlying9 f3
  obtain ⟨la, l, lc, e4, hi, hb, hc, hm⟩ := ints_of f4
  simp only [List.cons.injEq, and_true] at e0 e1 e2 e3 e4
  subst e0 e1 e2 e3 e4
  have b0 := wf_u8 w0
  have b1 := wf_i64 w1
  have b2 := wf_i64 w2
  refine ⟨⟨n0.toNat, n1, n2, s, l⟩, la, lc, ?_, hi, hc, hm, ⟨?_, ?_, ?_, ?_, ?_, ?_, hb⟩⟩
  · simp only [show ((n0.toNat : Nat) : Int) = n0 by omega]
  · show n0.toNat < 256; omega
  · show -9223372036854775808 ≤ n1; omega
  · show n1 ≤ 9223372036854775807; omega
  · show -9223372036854775808 ≤ n2; omega
  · show n2 ≤ 9223372036854775807; omega
  · show s.size ≤ 9223372036854775807; unfold maxLen at w3; omega

set_option maxRecDepth 100000 in
theorem nodes_of {n : Nat} {cs : List Value} {y : DataW H × List MemPlace} (h : DataW.trod enc Tryz.prog W 0 (fun _ => true) true n 22 cs = some y) :
    ∃ (a : Option Addr) (ts : List Nd) (cap : Nat), cs = [.slice a ts.length cap] ∧ NodesAt W a ts ∧ (∀ x ∈ ts, NdOk x) ∧ ts.length ≤ cap ∧ cap ≤ maxLen := by
  rcases DataW.trod_slice Tryz.underlying22 h with ⟨rfl, -⟩ | ⟨a, len, cap, elems, rest, m, -, rfl, -, -, hl, hm, hlen, hel, -, -⟩
  · exact ⟨none, [], 0, rfl, fun k hk => by simp at hk, (fun x hx => by cases hx), Nat.le_refl _, by unfold maxLen; omega⟩
  have hsp0 : 0 < len → a.spot = none := fun h0 => by
    have hk1 := hel 0 h0
    rw [Tryz.cellsNode, show elems[0]? = some (elems[0]'(by omega)) from List.getElem?_eq_getElem _, Option.bind_eq_some_iff] at hk1
    obtain ⟨cs, hcs, ht⟩ := hk1
    obtain ⟨x, la, lc, rfl, -⟩ := node_of ht
    obtain ⟨-, -, hc⟩ := World.cells?_some hcs
    have := World.cell?_spot (hc 0 (by omega))
    simpa [Addr.add] using this
  obtain ⟨ts, htl, hts⟩ := list_of (Q := fun k x => NdOk x ∧ ∃ b off, a = ⟨b, off, none⟩ ∧ NdAt W b (off + k * 5) x) (d := nd0) len (fun k hk => by
    have hk1 := hel k hk
    rw [Tryz.cellsNode, show elems[k]? = some (elems[k]'(by omega)) from List.getElem?_eq_getElem _, Option.bind_eq_some_iff] at hk1
    obtain ⟨cs, hcs, ht⟩ := hk1
    obtain ⟨x, la, lc, rfl, hi, h1, h2, hok⟩ := node_of ht
    obtain ⟨-, -, hc⟩ := World.cells?_some hcs
    obtain ⟨b, off, spot⟩ := a
    have hspot : spot = none := hsp0 (by omega)
    subst hspot
    have key : ∀ i, Addr.add (Addr.add ⟨b, off, none⟩ (k * 5)) i = ⟨b, off + k * 5 + i, none⟩ := fun i => by rw [add_plain, add_plain]
    refine ⟨x, hok, b, off, rfl, ?_, ?_, ?_, ?_, la, lc, ?_, hi, h1, h2⟩
    · have := hc 0 (by omega); rw [key] at this; exact this
    · have := hc 1 (by omega); rw [key] at this; exact this
    · have := hc 2 (by omega); rw [key] at this; exact this
    · have := hc 3 (by omega); rw [key] at this; exact this
    · have := hc 4 (by omega); rw [key] at this; exact this)
  refine ⟨some a, ts, cap, by rw [htl], fun k hk => ?_, fun x hx => ?_, by omega, hm⟩
  · obtain ⟨-, b, off, rfl, hn⟩ := hts k (by omega)
    exact ⟨b, off, rfl, hn⟩
  · obtain ⟨i, hi, rfl⟩ := List.getElem_of_mem hx
    have := (hts i (by omega)).1
    rwa [show ts.getD i nd0 = ts[i] by simp [List.getD_eq_getElem?_getD, hi]] at this

set_option maxRecDepth 100000 in
theorem tree_of {n : Nat} {cs : List Value} {y : DataW H × List MemPlace} (h : DataW.trod enc Tryz.prog W 0 (fun _ => true) true n 24 cs = some y) :
    ∃ (a : Option Addr) (ts : List Nd) (cap : Nat), cs = [.slice a ts.length cap] ∧ NodesAt W a ts ∧ (∀ x ∈ ts, NdOk x) ∧ ts.length ≤ cap ∧ cap ≤ maxLen := by
  obtain ⟨y0, m, -, hl, h0⟩ := trod_struct1 Tryz.underlying24 h
  rw [Tryz.cellsTree] at hl
  rw [Tryz.cellsNodes] at h0
  match cs, hl with
  | [c0], _ => exact nodes_of h0

set_option maxRecDepth 100000 in
/-- A tree among the arguments. -/
theorem arg_tree {v : Value} {d : DataW H} {p : List MemPlace} {base : Nat} (hok : Value.okWide Tryz.prog W .any base 24 v)
    (h : DataW.Trod enc Tryz.prog W 0 (fun _ => true) true 24 v d p) :
    ∃ (a : Option Addr) (ts : List Nd) (cap : Nat), v = .agg #[.slice a ts.length cap] ∧ NodesAt W a ts ∧ (∀ x ∈ ts, NdOk x) ∧ ts.length ≤ cap ∧ cap ≤ 9223372036854775807 := by
  obtain ⟨cs, rfl, -⟩ := okWide_struct Tryz.underlying24 hok
  obtain ⟨fuel, hf⟩ := h
  obtain ⟨a, ts, cap, hcs, h1, h2, h3, h4⟩ := tree_of hf
  refine ⟨a, ts, cap, ?_, h1, h2, h3, by unfold maxLen at h4; omega⟩
  have : cs.toList = [.slice a ts.length cap] := hcs
  cases cs
  simp at this
  subst this
  rfl
end
end Go.Proofs.YtoophdcagpfmpaaGreatDoor

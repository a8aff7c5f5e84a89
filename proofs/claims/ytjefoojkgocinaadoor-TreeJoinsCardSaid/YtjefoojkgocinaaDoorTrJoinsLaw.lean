/- TreeJoins: for every node and all trees the law returns true; its arguments read as before. No condition beyond the given row's own (the listed tables read as the program's text lays them). -/
import Derived.Test.YtjefoojkgocinaaDoorTrArg
import Derived.Test.YtjefoojkgocinaaDoorTrJoins
namespace Go.Proofs.YtjefoojkgocinaaDoor
open Go.ChangeShapes Go.WideShapes Go.ChangeAt Go.RowKit Go.ChangeMaps

section
variable {H : Type} {enc : TypeId × Value → H} {W : World}
set_option maxRecDepth 100000 in
theorem trees_of {n : Nat} {cs : List Value} {y : DataW H × List MemPlace} (h : DataW.trod enc Tryd.prog W 0 (fun _ => true) true n 26 cs = some y) :
    ∃ (a : Option Addr) (l : List (List Nd)) (cap : Nat), cs = [.slice a l.length cap] ∧ TreesAt W a l ∧ NdOks l ∧ l.length ≤ cap ∧ cap ≤ maxLen := by
  rcases DataW.trod_slice Tryd.underlying26' h with ⟨rfl, -⟩ | ⟨a, len, cap, elems, rest, m, -, rfl, -, -, hl, hm, hlen, hel, -, -⟩
  · exact ⟨none, [], 0, rfl, fun k hk => by simp at hk, (fun x hx => by cases hx), Nat.le_refl _, by unfold maxLen; omega⟩
  have key : ∀ k, k < len → ∃ ta ts tc, W.cell? (Addr.add a (k * 1)) = some (.slice ta ts.length tc) ∧ NodesAt W ta ts ∧ (∀ x ∈ ts, NdOk x) ∧ ts.length ≤ tc ∧ tc ≤ maxLen := fun k hk => by
    have hk1 := hel k hk
    rw [Tryd.cellsTree, show elems[k]? = some (elems[k]'(by omega)) from List.getElem?_eq_getElem _, Option.bind_eq_some_iff] at hk1
    obtain ⟨cs, hcs, ht⟩ := hk1
    obtain ⟨ta, ts, tc, rfl, h1, h2, h3, h4⟩ := tree_of ht
    obtain ⟨-, -, hc⟩ := World.cells?_some hcs
    have hc0 := hc 0 (by omega)
    refine ⟨ta, ts, tc, ?_, h1, h2, h3, h4⟩
    have e : Addr.add (Addr.add a (k * 1)) 0 = Addr.add a (k * 1) := by simp [Addr.add]
    rw [e] at hc0
    exact hc0
  have hsp0 : 0 < len → a.spot = none := fun h0 => by
    obtain ⟨ta, ts, tc, hc, -⟩ := key 0 h0
    have := World.cell?_spot hc
    simpa [Addr.add] using this
  obtain ⟨l, htl, hts⟩ := list_of (Q := fun k ts => (∀ x ∈ ts, NdOk x) ∧ ∃ b off, a = ⟨b, off, none⟩ ∧ ∃ ta tc, W.cell? ⟨b, off + k, none⟩ = some (.slice ta ts.length tc) ∧ NodesAt W ta ts ∧ ts.length ≤ tc ∧ tc ≤ 9223372036854775807) (d := []) len (fun k hk => by
    obtain ⟨ta, ts, tc, hc, h1, h2, h3, h4⟩ := key k hk
    obtain ⟨b, off, spot⟩ := a
    have hspot : spot = none := hsp0 (by omega)
    subst hspot
    rw [add_plain, Nat.mul_one] at hc
    exact ⟨ts, h2, b, off, rfl, ta, tc, hc, h1, h3, by unfold maxLen at h4; omega⟩)
  refine ⟨some a, l, cap, by rw [htl], fun k hk => ?_, fun x hx => ?_, by omega, hm⟩
  · obtain ⟨-, b, off, rfl, hn⟩ := hts k (by omega)
    exact ⟨b, off, rfl, hn⟩
  · obtain ⟨i, hi, rfl⟩ := List.getElem_of_mem hx
    have := (hts i (by omega)).1
    rwa [show l.getD i [] = l[i] by simp [List.getD_eq_getElem?_getD, hi]] at this
set_option maxRecDepth 100000 in
theorem arg_trees {v : Value} {d : DataW H} {p : List MemPlace} {base : Nat} (hok : Value.okWide Tryd.prog W .any base 26 v)
    (h : DataW.Trod enc Tryd.prog W 0 (fun _ => true) true 26 v d p) :
    ∃ (a : Option Addr) (l : List (List Nd)) (cap : Nat), v = .slice a l.length cap ∧ TreesAt W a l ∧ NdOks l ∧ l.length ≤ cap ∧ cap ≤ 9223372036854775807 := by
  obtain ⟨a0, len0, cap0, rfl⟩ := okWide_slice Tryd.underlying26' hok
  obtain ⟨fuel, hf⟩ := h
  obtain ⟨a, l, cap, hcs, h1, h2, h3, h4⟩ := trees_of hf
  refine ⟨a, l, cap, ?_, h1, h2, h3, by unfold maxLen at h4; omega⟩
  simpa [Value.cells] using hcs
set_option maxRecDepth 100000 in
theorem arg_node {v : Value} {d : DataW H} {p : List MemPlace} {base : Nat} (hok : Value.okWide Tryd.prog W .any base 25 v)
    (h : DataW.Trod enc Tryd.prog W 0 (fun _ => true) true 25 v d p) :
    ∃ (x : Nd) (la : Option Addr) (lc : Nat), v = .agg #[.int .u8 (x.k : Nat), .int .i64 x.at_, .int .i64 x.n, .string x.s, .slice la x.l.length lc] ∧ IntsAt W la x.l ∧ x.l.length ≤ lc ∧ lc ≤ 9223372036854775807 ∧ NdOk x := by
  obtain ⟨cs, rfl, -⟩ := okWide_struct Tryd.underlying25 hok
  obtain ⟨fuel, hf⟩ := h
  obtain ⟨x, la, lc, hcs, h1, h2, h3, h4⟩ := node_of hf
  refine ⟨x, la, lc, ?_, h1, h2, by unfold maxLen at h3; omega, h4⟩
  have : cs.toList = _ := hcs
  cases cs
  simp at this
  subst this
  rfl
end

set_option maxRecDepth 100000 in
theorem treeJoins_lifted (os : Os) (started : os.Started) (H : Type) (enc : TypeId × Value → H) :
    ReturnsInHanded {} Tryd.checked os 3 .any (fun w args => (Rows.treeJoinsSpec.pre enc Tryd.prog Tryd.f3 [] false w args ∧ laidMetH Tryd.prog laidL w) ∧ sizedMet enc Tryd.prog Tryd.f3 (OpenSpec.ofChange Rows.treeJoinsSpec) false w args)
      (Rows.treeJoinsSpec.post enc Tryd.prog Tryd.f3 false true false false) := by
  refine returnsInHanded_of_change_and (C := Tryd.checked) (X := fun w _ => laidMetH Tryd.prog laidL w) (fun _ _ _ hh h => h.of_heap hh) Tryd.own started (by kernel_rfl) Tryd.func3
    (ChangeSpec.witness_shaped (enc := enc) (C := Tryd.checked) (os := os) (X := fun w _ => laidMetH Tryd.prog laidL w) false (World.doorLaid Tryd.prog 400 os) #[.agg #[.int .u8 0, .int .i64 0, .int .i64 0, .string ⟨#[]⟩, .slice none 0 0], .slice none 0 0] 8 rfl (World.shaped_of_RefB (by kernel_rfl) (by kernel_rfl)) (by kernel_rfl) (by kernel_rfl) (by kernel_rfl) (door_met os _)) ?_
  intro W base args ds gs before hval0 hW _ _ hL _
  have hval : ∀ (j : Nat) t v, Tryd.f3.params[j]? = some t → args[j]? = some v → Value.okWide Tryd.prog W .any base t v := hval0
  have hW' := hW
  obtain ⟨p, q, hA0, hV, rfl, hfz, hnd⟩ := hW
  have hA : DataW.TrodAll enc Tryd.prog W 0 (fun _ => true) true Tryd.f3.params.toList args.toList ds p := hA0
  rw [Tryd.params3] at hA hval
  obtain ⟨v0, v1, d0, d1, p0, p1, rfl, rfl, rfl, h0, h1⟩ := trodAll_two hA
  obtain ⟨rfl, rfl⟩ := trodVars_none hV
  clear hA0 hval0
  simp only [List.append_nil] at hW'
  have hlt : ∀ x ∈ p0 ++ p1, x.block < W.heap.size := fun x hx => by simpa using hW'.lt x (by simpa using hx)
  obtain ⟨x, xa, xc, rfl, n1, c1, m1, o1⟩ := arg_node (hval 0 25 v0 rfl rfl) h0
  obtain ⟨a, l, cap, rfl, n2, o2, c2, m2⟩ := arg_trees (hval 1 26 v1 rfl rfl) h1
  refine (treeJoins_any x o1 xa xc c1 m1 l o2 a cap c2 m2 W n1 n2 (tab_of_laid hL)).mono fun e W' ⟨he, hk⟩ => ?_
  subst he
  have hb : Below W.heap.size W W' := hk.below (Nat.le_refl _) (fun _ _ x => x)
  have ha : ∀ {v d ps}, DataW.Trod enc Tryd.prog W 0 (fun _ => true) true 25 v d ps → (∀ x ∈ ps, x.block < W.heap.size) → DataW.Trod enc Tryd.prog W' 0 (fun b => decide (b < W.heap.size)) true 25 v d ps :=
    fun h hl => Below.trod Tryd.laidOut (by kernel_rfl) (of_decide_eq_true (by kernel_rfl)) h hb hl
  have hi : ∀ {v d ps}, DataW.Trod enc Tryd.prog W 0 (fun _ => true) true 26 v d ps → (∀ x ∈ ps, x.block < W.heap.size) → DataW.Trod enc Tryd.prog W' 0 (fun b => decide (b < W.heap.size)) true 26 v d ps :=
    fun h hl => Below.trod Tryd.laidOut (by kernel_rfl) (of_decide_eq_true (by kernel_rfl)) h hb hl
  refine ⟨_, rfl, _, _, _, [], p0 ++ p1, [], hW', ?_, ?_, rfl, hb.frame _, fun h => by cases h⟩
  · exact trodAll_mk1 (shut_bool (by kernel_rfl) true)
  · exact trodAll_mk2 (ha h0 (fun x hx => hlt x (by simp [hx]))) (hi h1 (fun x hx => hlt x (by simp [hx])))

theorem treeJoins_row : Rows.TreeJoinsSaid :=
  OpenClaim.holds_of_wide 3 Tryd.f3 rfl rfl rfl rfl rfl rfl rfl ⟨rfl, rfl, rfl, rfl, rfl⟩ rfl rfl rfl rfl rfl (by kernel_rfl) Tryd.func3 (by kernel_rfl)
    (of_decide_eq_true (by kernel_rfl)) (by unfold Func.isWrapper; rw [if_neg (of_decide_eq_false (by kernel_rfl))]; exact ⟨rfl, rfl⟩)
    (fun os started H enc _ => treeJoins_lifted os started H enc)
theorem treeJoins_holds : Rows.TreeJoinsCardSaid :=
  Claim7.holds_tied_plain_at .later [] [.listed, .data] true (true, "62158cd5e37e6bdb7588e24557a8e1cecc073da8ccb2e0230de16c46125bbe89") false
    treeJoins_row (fun _ h => by cases h) (by kernel_rfl) (fun _ h => by cases h) treeJoins_row_tie rfl ⟨rfl, rfl⟩ (by kernel_rfl) rfl
    (fun f fn hf hfn => by
      obtain rfl : f = 3 := Option.some.inj ((show Tryd.prog.funcNamed "loanword/loanwordlaw03.TreeJoins" = some 3 by kernel_rfl).symm.trans hf) |>.symm
      obtain rfl : fn = Tryd.f3 := (Option.some.inj (Tryd.func3.symm.trans hfn)).symm
      exact ⟨by kernel_rfl, fun j t ht => by
        rw [Tryd.params3] at ht
        have hm : t ∈ [25, 26] := by simpa using Array.mem_of_getElem? ht
        have hall : ([25, 26].all fun u => !Tryd.prog.wantsStandIn u) = true := by kernel_rfl
        exact (show Tryd.prog.wantsStandIn t = false by simpa using List.all_eq_true.1 hall t hm)⟩)
    (by kernel_rfl)
end Go.Proofs.YtjefoojkgocinaaDoor

/- LayoutWords: for all numbers, structs, types and shapes the law returns true; its arguments read as before. No condition beyond the given row's own (the listed tables read as the program's text lays them). -/
import Derived.Test.YtaeppaaolkcbbaaGreatDoorMg48
import Derived.Test.YtaeppaaolkcbbaaGreatDoorMg19
import Derived.Test.YtaeppaaolkcbbaaGreatDoorMg47
namespace Go.Proofs.YtaeppaaolkcbbaaGreatDoor
open Go.ChangeShapes Go.WideShapes Go.ChangeAt Go.RowKit Go.ChangeMaps

theorem Tryz.cellsBxA : Tryz.prog.cellsOf 61 = 3 := by kernel_rfl
theorem Tryz.cellsShp : Tryz.prog.cellsOf 32 = 2 := by kernel_rfl
section
variable {H : Type} {enc : TypeId × Value → H} {W : World}
def BxQ (x : Int × Int × Int) (cs : List Value) : Prop := cs = [.int .i64 x.1, .int .i64 x.2.1, .int .i64 x.2.2]
set_option maxRecDepth 100000 in
theorem box_of {n : Nat} {cs : List Value} {y : DataW H × List MemPlace} (h : DataW.trod enc Tryz.prog W 0 (fun _ => true) true n 61 cs = some y) : ∃ x, BxQ x cs := by
 obtain ⟨xs, m, -, -, hl, hlen, hf⟩ := DataW.trod_struct Tryz.underlying61 h
 rw [Tryz.cellsBxA] at hl
 match cs, hl with
 | [c0, c1, c2], _ =>
 match xs, hlen with
 | [x0, x1, x2], _ =>
 have f0 := hf 0 _ rfl
 have f1 := hf 1 _ rfl
 have f2 := hf 2 _ rfl
 have z2 : Tryz.prog.cellsOf 3 = 1 := by kernel_rfl
 simp only [List.getElem_toArray, List.getElem_cons_zero, List.getElem_cons_succ, z2, List.drop_zero, List.drop_succ_cons, List.take_succ_cons, List.take_zero, List.getElem?_cons_zero, List.getElem?_cons_succ] at f0 f1 f2
 obtain ⟨n0, e0, -, -⟩ := DataW.trod_int Tryz.underlying3 f0
 obtain ⟨n1, e1, -, -⟩ := DataW.trod_int Tryz.underlying3 f1
 obtain ⟨n2, e2, -, -⟩ := DataW.trod_int Tryz.underlying3 f2
 simp only [List.cons.injEq, and_true] at e0 e1 e2
 subst e0 e1 e2
 exact ⟨(n0, n1, n2), rfl⟩
def ShQ (W : World) (s : ShpL) (cs : List Value) : Prop := ∃ ba bc, cs = [.int .i64 s.1, .slice ba s.2.length bc] ∧ BxsAt W ba s.2
set_option maxRecDepth 100000 in
theorem shape_of {n : Nat} {cs : List Value} {y : DataW H × List MemPlace} (h : DataW.trod enc Tryz.prog W 0 (fun _ => true) true n 32 cs = some y) : ∃ s, ShQ W s cs := by
 obtain ⟨xs, m, -, -, hl, hlen, hf⟩ := DataW.trod_struct Tryz.underlying32 h
 rw [Tryz.cellsShp] at hl
 match cs, hl with
 | [c0, c1], _ =>
 match xs, hlen with
 | [x0, x1], _ =>
 have f0 := hf 0 _ rfl
 have f1 := hf 1 _ rfl
 have z2 : Tryz.prog.cellsOf 3 = 1 := by kernel_rfl
 have z3 : Tryz.prog.cellsOf 30 = 1 := by kernel_rfl
 simp only [List.getElem_toArray, List.getElem_cons_zero, List.getElem_cons_succ, z2, z3, List.drop_zero, List.drop_succ_cons, List.take_succ_cons, List.take_zero, List.getElem?_cons_zero, List.getElem?_cons_succ] at f0 f1
 obtain ⟨n0, e0, -, -⟩ := DataW.trod_int Tryz.underlying3 f0
 obtain ⟨a, l, cap, e1, -, -, hl1⟩ := slice_of (enc := enc) (W := W) (d := ((0, 0, 0) : Int × Int × Int)) (Q := BxQ) Tryz.underlying30 Tryz.cellsBxA (by decide) (fun x cs (h : BxQ x cs) => by rw [h]; rfl) (fun h => box_of h) f1
 simp only [List.cons.injEq, and_true] at e0 e1
 subst e0 e1
 refine ⟨(n0, l), a, cap, rfl, fun k hk => ?_⟩
 obtain ⟨b, o, us, rfl, hq, hc⟩ := hl1 k hk
 have e : l.getD k (0, 0, 0) = l[k] := by rw [List.getD_eq_getElem?_getD, List.getElem?_eq_getElem hk]; rfl
 rw [e] at hq
 rw [hq] at hc
 exact ⟨b, o, rfl, hc 0 _ rfl, hc 1 _ rfl, hc 2 _ rfl⟩
set_option maxRecDepth 100000 in
/-- Shapes among the arguments. -/
theorem arg_shapes {v : Value} {d : DataW H} {p : List MemPlace} {base : Nat} (hok : Value.okWide Tryz.prog W .any base 27 v) (h : DataW.Trod enc Tryz.prog W 0 (fun _ => true) true 27 v d p) :
  ∃ (a : Option Addr) (l : List ShpL) (c : Nat), v = .slice a l.length c ∧ ShsAt W a l := by
 obtain ⟨a0, len, cap, rfl⟩ := okWide_slice Tryz.underlying27 hok
 obtain ⟨fuel, hf⟩ := h
 obtain ⟨a, l, c, e, -, -, hl⟩ := slice_of (enc := enc) (W := W) (d := shp0) (Q := ShQ W) Tryz.underlying27 Tryz.cellsShp (by decide) (fun s cs (h : ShQ W s cs) => by obtain ⟨ba, bc, h, -⟩ := h; rw [h]; rfl) (fun h => shape_of h) hf
 have e2 : [Value.slice a0 len cap] = [Value.slice a l.length c] := e
 refine ⟨a, l, c, (List.cons.inj e2).1, fun k hk => ?_⟩
 obtain ⟨b, o, us, rfl, ⟨ba, bc, hq, hb⟩, hc⟩ := hl k hk
 rw [hq] at hc
 exact ⟨b, o, ba, bc, rfl, hc 0 _ rfl, hc 1 _ rfl, hb⟩
set_option maxRecDepth 100000 in
theorem arg_i64 {v : Value} {base : Nat} (hok : Value.okWide Tryz.prog W .any base 3 v) : ∃ n : Int, v = .int .i64 n ∧ -9223372036854775808 ≤ n ∧ n ≤ 9223372036854775807 := by
 obtain ⟨n, rfl⟩ := okWide_int Tryz.underlying3 hok
 have h1 : IntKind.i64.min = -9223372036854775808 := by decide
 have h2 : IntKind.i64.max = 9223372036854775807 := by decide
 simp [Value.okWide, Tryz.underlying3, Cell.okWide, Cell.ok, IntKind.has, h1, h2] at hok
 exact ⟨n, rfl, hok.1, hok.2⟩
end
set_option maxRecDepth 100000 in
theorem layoutWords_lifted (os : Os) (started : os.Started) (H : Type) (enc : TypeId × Value → H) :
  ReturnsInHanded {} Tryz.checked os 3 .any (fun w args => (Rows.layoutWordsSpec.pre enc Tryz.prog Tryz.f3 [] false w args ∧ laidMetH Tryz.prog laidL w) ∧ sizedMet enc Tryz.prog Tryz.f3 (OpenSpec.ofChange Rows.layoutWordsSpec) false w args)
   (Rows.layoutWordsSpec.post enc Tryz.prog Tryz.f3 false true false false) := by
 refine returnsInHanded_of_change_and (C := Tryz.checked) (X := fun w _ => laidMetH Tryz.prog laidL w) (fun _ _ _ hh h => h.of_heap hh) Tryz.own started (by kernel_rfl) Tryz.func3
  (ChangeSpec.witness_shaped (enc := enc) (C := Tryz.checked) (os := os) (X := fun w _ => laidMetH Tryz.prog laidL w) false (World.doorLaid Tryz.prog 400 os) #[.int .i64 0, .int .i64 0, .slice none 0 0, .agg #[.int .u8 0, .bool false, .int .i64 0, .int .i64 0, .slice none 0 0], .slice none 0 0] 8 rfl (World.shaped_of_RefB (by kernel_rfl) (by kernel_rfl)) (by kernel_rfl) (by kernel_rfl) (by kernel_rfl) (door_met os _)) ?_
 intro W base args ds gs before hval0 hW _ _ hL _
 have hval : ∀ (j : Nat) t v, Tryz.f3.params[j]? = some t → args[j]? = some v → Value.okWide Tryz.prog W .any base t v := hval0
 have hW' := hW
 obtain ⟨p, q, hA0, hV, rfl, hfz, hnd⟩ := hW
 have hA : DataW.TrodAll enc Tryz.prog W 0 (fun _ => true) true Tryz.f3.params.toList args.toList ds p := hA0
 rw [Tryz.params3] at hA hval
 obtain ⟨v0, v1, v2, v3, v4, d0, d1, d2, d3, d4, p0, p1, p2, p3, p4, rfl, rfl, rfl, h0, h1, h2, h3, h4⟩ := trodAll_five hA
 obtain ⟨rfl, rfl⟩ := trodVars_none hV
 clear hA0 hval0
 simp only [List.append_nil] at hW'
 have hlt : ∀ x ∈ p0 ++ (p1 ++ (p2 ++ (p3 ++ p4))), x.block < W.heap.size := fun x hx => by simpa using hW'.lt x (by simpa using hx)
 have hs0 := h0
 have hs1 := h1
 have hs2 := h2
 have hs3 := h3
 have hs4 := h4
 obtain ⟨n, rfl, hn⟩ := arg_i64 (hval 0 3 v0 rfl rfl)
 obtain ⟨fd, rfl, -⟩ := arg_i64 (hval 1 3 v1 rfl rfl)
 obtain ⟨sa, S, sc, rfl, hsc, hS⟩ := arg_structs 61 (hval 2 22 v2 rfl rfl) h2
 obtain ⟨t, ta, tc, rfl, ht⟩ := arg_type 61 (hval 3 26 v3 rfl rfl) h3
 obtain ⟨la, l, lc, rfl, hl⟩ := arg_shapes (hval 4 27 v4 rfl rfl) h4
 refine (layoutWords_any n fd hn S sa sc hsc t ta tc l la lc W hS ht hl (fun V _ => awake_any V)).mono fun e W' ⟨he, hk⟩ => ?_
 subst he
 have hb : Below W.heap.size W W' := hk.below (Nat.le_refl _) (fun _ _ x => x)
 have htN : ∀ {v d ps}, DataW.Trod enc Tryz.prog W 0 (fun _ => true) true 3 v d ps → (∀ x ∈ ps, x.block < W.heap.size) → DataW.Trod enc Tryz.prog W' 0 (fun b => decide (b < W.heap.size)) true 3 v d ps :=
  fun h hl => Below.trod Tryz.laidOut (by kernel_rfl) (of_decide_eq_true (by kernel_rfl)) h hb hl
 have htS : ∀ {v d ps}, DataW.Trod enc Tryz.prog W 0 (fun _ => true) true 22 v d ps → (∀ x ∈ ps, x.block < W.heap.size) → DataW.Trod enc Tryz.prog W' 0 (fun b => decide (b < W.heap.size)) true 22 v d ps :=
  fun h hl => Below.trod Tryz.laidOut (by kernel_rfl) (of_decide_eq_true (by kernel_rfl)) h hb hl
 have htL : ∀ {v d ps}, DataW.Trod enc Tryz.prog W 0 (fun _ => true) true 26 v d ps → (∀ x ∈ ps, x.block < W.heap.size) → DataW.Trod enc Tryz.prog W' 0 (fun b => decide (b < W.heap.size)) true 26 v d ps :=
  fun h hl => Below.trod Tryz.laidOut (by kernel_rfl) (of_decide_eq_true (by kernel_rfl)) h hb hl
 have htH : ∀ {v d ps}, DataW.Trod enc Tryz.prog W 0 (fun _ => true) true 27 v d ps → (∀ x ∈ ps, x.block < W.heap.size) → DataW.Trod enc Tryz.prog W' 0 (fun b => decide (b < W.heap.size)) true 27 v d ps :=
  fun h hl => Below.trod Tryz.laidOut (by kernel_rfl) (of_decide_eq_true (by kernel_rfl)) h hb hl
 refine ⟨_, rfl, _, _, _, [], (p0 ++ (p1 ++ (p2 ++ (p3 ++ p4)))), [], hW', ?_, ?_, rfl, hb.frame _, fun h => by cases h⟩
 ·exact trodAll_mk1 (shut_bool (by kernel_rfl) true)
 ·exact trodAll_mk5 (htN hs0 (fun x hx => hlt x (by simp [hx]))) (htN hs1 (fun x hx => hlt x (by simp [hx]))) (htS hs2 (fun x hx => hlt x (by simp [hx]))) (htL hs3 (fun x hx => hlt x (by simp [hx]))) (htH hs4 (fun x hx => hlt x (by simp [hx])))
theorem layoutWords_row : Rows.LayoutWordsSaid :=
 OpenClaim.holds_of_wide 3 Tryz.f3 rfl rfl rfl rfl rfl rfl rfl ⟨rfl, rfl, rfl, rfl, rfl⟩ rfl rfl rfl rfl rfl (by kernel_rfl) Tryz.func3 (by kernel_rfl)
  (of_decide_eq_true (by kernel_rfl)) (by unfold Func.isWrapper; rw [if_neg (of_decide_eq_false (by kernel_rfl))]; exact ⟨rfl, rfl⟩)
  (fun os started H enc _ => layoutWords_lifted os started H enc)
theorem layoutWords_holds : Rows.LayoutWordsCardSaid :=
 Claim7.holds_tied_plain_at .later [] _ _ _ _ layoutWords_row (fun _ h => by cases h) (by kernel_rfl) (fun _ h => by cases h) layoutWords_row_tie rfl ⟨rfl, rfl⟩ (by kernel_rfl) rfl
  (fun f fn hf hfn => by
   obtain rfl : f = 3 := Option.some.inj ((show Tryz.prog.funcNamed "loanword/loanwordlaw23.LayoutWords" = some 3 by kernel_rfl).symm.trans hf) |>.symm
   obtain rfl : fn = Tryz.f3 := (Option.some.inj (Tryz.func3.symm.trans hfn)).symm
   exact ⟨by kernel_rfl, fun j t ht => by
    rw [Tryz.params3] at ht
    have hm : t ∈ [3, 3, 22, 26, 27] := by simpa using Array.mem_of_getElem? ht
    have hall : ([3, 3, 22, 26, 27].all fun u => !Tryz.prog.wantsStandIn u) = true := by kernel_rfl
    exact (show Tryz.prog.wantsStandIn t = false by simpa using List.all_eq_true.1 hall t hm)⟩)
  (by kernel_rfl)
end Go.Proofs.YtaeppaaolkcbbaaGreatDoor

/- PlaceTypes: for all structs, locals and places the law returns true; its arguments read as before. No condition beyond the given row's own (the listed variables read as the program's text lays them). -/
import Derived.Test.YtpigppghcghpbaaGreatDoorMg13
import Derived.Test.YtpigppghcghpbaaGreatDoorPwT
import Derived.Test.YtpigppghcghpbaaGreatDoorMg48
namespace Go.Proofs.YtpigppghcghpbaaGreatDoor
open Go.ChangeShapes Go.WideShapes Go.ChangeAt Go.RowKit Go.ChangeMaps

set_option maxRecDepth 100000 in
theorem placeTypes_lifted (os : Os) (started : os.Started) (H : Type) (enc : TypeId × Value → H) (F : Stop.Interp) :
    ReturnsInHanded {} Tryz.checked os 8 .any ((OpenSpec.ofChange Rows.placeTypesSpec).preRow enc Tryz.prog Tryz.f8 Rows.placeTypesRow.domain false Rows.placeTypesRow.laid) (((OpenSpec.ofChange Rows.placeTypesSpec).at F).post enc Tryz.prog Tryz.f8 false true false false) := by
  obtain ⟨places, hx⟩ : ∃ places, DataW.whole enc Tryz.prog ((World.laidAll Tryz.prog os laidL).forCall (fun _ _ => 0) ⟨#[], #[.slice none 0 0, .slice none 0 0, .agg #[.int .i64 0, .slice none 0 0]], []⟩).memory Tryz.f8.params.toList (OpenSpec.ofChange Rows.placeTypesSpec).vars false (#[.slice none 0 0, .slice none 0 0, .agg #[.int .i64 0, .slice none 0 0]] : Array Value).toList 8 = some ([.nil, .nil, .agg [.lit (.int .i64 0), .nil]], [], places) := ⟨[], by kernel_rfl⟩
  refine returnsInHanded_of_row (C := Tryz.checked) (s := (OpenSpec.ofChange Rows.placeTypesSpec)) Tryz.own started (by kernel_rfl) Tryz.func8
    (row_witness (enc := enc) (C := Tryz.checked) false (World.laidAll Tryz.prog os laidL) #[.slice none 0 0, .slice none 0 0, .agg #[.int .i64 0, .slice none 0 0]] (World.laidAll_os _ _ _) (World.shaped_of_ZipB (by kernel_rfl) (by kernel_rfl)) (by kernel_rfl)
      (OpenSpec.preRow_of_cond 8 hx (by kernel_rfl) (fun k hk => by cases hk) (by kernel_rfl) (door_met os _))) ?_
  intro W base args ds gs before hval0 hW _ _ hsz hL hsh _
  have hval : ∀ (j : Nat) t v, Tryz.f8.params[j]? = some t → args[j]? = some v → Value.okWide Tryz.prog W .any base t v := hval0
  have hW' := hW
  obtain ⟨p, q, hA0, hV, rfl, hfz, hnd⟩ := hW
  have hA : DataW.TrodAll enc Tryz.prog W 0 (fun _ => true) true Tryz.f8.params.toList args.toList ds p := hA0
  rw [Tryz.params8] at hA hval
  obtain ⟨v0, v1, v2, d0, d1, d2, p0, p1, p2, rfl, rfl, rfl, h0, h1, h2⟩ := trodAll_three hA
  obtain ⟨rfl, rfl⟩ := trodVars_none hV
  clear hA0 hval0
  simp only [List.append_nil] at hW'
  have hlt : ∀ x ∈ p0 ++ p1 ++ p2, x.block < W.heap.size := fun x hx => by simpa using hW'.lt x (by simpa using hx)
  have hs0 := h0
  have hs1 := h1
  have hs2 := h2
  obtain ⟨sa, S, sc, rfl, hsc, hS⟩ := arg_structs 61 (hval 0 22 v0 rfl rfl) h0
  obtain ⟨la, L, lc, rfl, hlc, hL9⟩ := arg_types 61 (hval 1 23 v1 rfl rfl) h1
  obtain ⟨q2, a2, c2, rfl, hi2, hc2, hp2⟩ := arg_place (hval 2 26 v2 rfl rfl) h2
  refine (typesLaw_any S sa sc hsc L la lc q2 a2 c2 W (tab_of_laid hL hsh) hS hL9 hi2 hc2).mono fun e W' ⟨he, hk⟩ => ?_
  subst he
  have hb : Below W.heap.size W W' := hk.below (Nat.le_refl _) (fun _ _ x => x)
  have htS : ∀ {v d ps}, DataW.Trod enc Tryz.prog W 0 (fun _ => true) true 22 v d ps → (∀ x ∈ ps, x.block < W.heap.size) → DataW.Trod enc Tryz.prog W' 0 (fun b => decide (b < W.heap.size)) true 22 v d ps :=
    fun h hl => Below.trod Tryz.laidOut (by kernel_rfl) (of_decide_eq_true (by kernel_rfl)) h hb hl
  have htL : ∀ {v d ps}, DataW.Trod enc Tryz.prog W 0 (fun _ => true) true 23 v d ps → (∀ x ∈ ps, x.block < W.heap.size) → DataW.Trod enc Tryz.prog W' 0 (fun b => decide (b < W.heap.size)) true 23 v d ps :=
    fun h hl => Below.trod Tryz.laidOut (by kernel_rfl) (of_decide_eq_true (by kernel_rfl)) h hb hl
  have htP : ∀ {v d ps}, DataW.Trod enc Tryz.prog W 0 (fun _ => true) true 26 v d ps → (∀ x ∈ ps, x.block < W.heap.size) → DataW.Trod enc Tryz.prog W' 0 (fun b => decide (b < W.heap.size)) true 26 v d ps :=
    fun h hl => Below.trod Tryz.laidOut (by kernel_rfl) (of_decide_eq_true (by kernel_rfl)) h hb hl
  refine ⟨_, rfl, _, _, _, [], (p0 ++ p1 ++ p2), [], hW', ?_, ?_, rfl, hb.frame _, fun h => by cases h⟩
  · exact trodAll_mk1 (shut_bool (by kernel_rfl) true)
  · first | exact trodAll_mk3 (htS hs0 (fun x hx => hlt x (by first | (simp [hx]; done) | cases hx))) (htL hs1 (fun x hx => hlt x (by first | (simp [hx]; done) | cases hx))) (htP hs2 (fun x hx => hlt x (by first | (simp [hx]; done) | cases hx))) | (simp only [List.append_assoc]; exact trodAll_mk3 (htS hs0 (fun x hx => hlt x (by first | (simp [hx]; done) | cases hx))) (htL hs1 (fun x hx => hlt x (by first | (simp [hx]; done) | cases hx))) (htP hs2 (fun x hx => hlt x (by first | (simp [hx]; done) | cases hx))))
theorem placeTypes_row : Rows.PlaceTypesSaid :=
  OpenClaim.holds_of_cond 8 Tryz.f8 rfl rfl rfl rfl rfl rfl rfl ⟨rfl, rfl, rfl, rfl, rfl⟩ rfl rfl rfl rfl rfl (by kernel_rfl) Tryz.func8 (by kernel_rfl)
    (of_decide_eq_true (by kernel_rfl)) (by unfold Func.isWrapper; rw [if_neg (of_decide_eq_false (by kernel_rfl))]; exact ⟨rfl, rfl⟩)
    (fun os started H enc _ F => by rw [OpenClaim.pre_eq_preRow]; exact placeTypes_lifted os started H enc F)
theorem placeTypes_holds : Rows.PlaceTypesCardSaid :=
  Claim7.holds_tied_plain_at .later [] _ _ _ _ placeTypes_row (fun _ h => by cases h) (by kernel_rfl) (fun _ h => by cases h) placeTypes_row_tie rfl ⟨rfl, rfl⟩ (by kernel_rfl) rfl
    (fun f fn hf hfn => by
      obtain rfl : f = 8 := Option.some.inj ((show Tryz.prog.funcNamed "loanword/loanwordlaw09.PlaceTypes" = some 8 by kernel_rfl).symm.trans hf) |>.symm
      obtain rfl : fn = Tryz.f8 := (Option.some.inj (Tryz.func8.symm.trans hfn)).symm
      exact ⟨by kernel_rfl, fun j t ht => by
        rw [Tryz.params8] at ht
        have hm : t ∈ [22, 23, 26] := by simpa using Array.mem_of_getElem? ht
        have hall : ([22, 23, 26].all fun u => !Tryz.prog.wantsStandIn u) = true := by kernel_rfl
        exact (show Tryz.prog.wantsStandIn t = false by simpa using List.all_eq_true.1 hall t hm)⟩)
    (by kernel_rfl)
end Go.Proofs.YtpigppghcghpbaaGreatDoor

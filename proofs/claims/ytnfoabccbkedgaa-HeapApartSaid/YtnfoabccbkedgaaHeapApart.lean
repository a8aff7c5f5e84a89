/- HeapApart: for every list of steps the law returns true; its argument reads as before. No condition beyond the given row's own. -/
import Derived.Test.YtnfoabccbkedgaaHeapN
import Derived.Test.YtnfoabccbkedgaaRow
namespace Go.Proofs.Ytnfoabccbkedgaa
open Go.ChangeShapes Go.WideShapes Go.ChangeAt Go.RowKit

theorem heapApart_any (a1 : Option Addr) (xs1 : List Int) (c1 : Nat) (w : World)
    (hx1 : IntsAt w a1 xs1) (hr1 : ∀ x ∈ xs1, -9223372036854775808 ≤ x ∧ x < 9223372036854775808) :
    Calls Try.prog 4 #[.slice a1 xs1.length c1] w (lawPost w) := by
  by_cases h : 300 < xs1.length
  · exact apart_long a1 _ c1 w h
  · exact apart_short a1 xs1 c1 w (by omega) hx1 hr1

set_option maxRecDepth 100000 in
theorem heapApart_lifted (os : Os) (started : os.Started) (H : Type) (enc : TypeId × Value → H) :
    ReturnsInHanded {} Try.checked os 4 .any (Rows.heapApartSpec.pre6 enc Try.prog Try.f4 Rows.heapApartRow.domain false) (Rows.heapApartSpec.post enc Try.prog Try.f4 false true false false) := by
  refine returnsInHanded_of_change (C := Try.checked) Try.own started (by kernel_rfl) Try.func4
    (ChangeSpec.witness6 (enc := enc) (C := Try.checked) false ⟨#[], #[.slice none 0 0], []⟩ 8 (by kernel_rfl) (by kernel_rfl) (by kernel_rfl) (by kernel_rfl)) ?_
  intro W base args ds gs before hval0 hW hcnd _
  have hval : ∀ (j : Nat) t v, Try.f4.params[j]? = some t → args[j]? = some v → Value.okWide Try.prog W .any base t v := hval0
  have hW' := hW
  obtain ⟨p, q, hA0, hV, rfl, hfz, hnd⟩ := hW
  have hA : DataW.TrodAll enc Try.prog W 0 (fun _ => true) true Try.f4.params.toList args.toList ds p := hA0
  rw [Try.params4] at hA hval
  obtain ⟨v0, d0, rfl, rfl, h0⟩ := trodAll_one hA
  obtain ⟨rfl, rfl⟩ := trodVars_none hV
  clear hA0 hval0
  simp only [List.append_nil] at hW'
  have hlt : ∀ x ∈ p, x.block < W.heap.size := fun x hx => by simpa using hW'.lt x (by simpa using hx)
  obtain ⟨a1, xs1, c1, rfl, hx1, hr1⟩ := arg_ints (hval 0 22 v0 rfl rfl) h0
  refine (heapApart_any a1 xs1 c1 W hx1 hr1).mono fun e W' ⟨he, hk⟩ => ?_
  subst he
  have hb : Below W.heap.size W W' := hk.below (Nat.le_refl _) (fun _ _ x => x)
  have ha : ∀ {v d ps}, DataW.Trod enc Try.prog W 0 (fun _ => true) true 22 v d ps → (∀ x ∈ ps, x.block < W.heap.size) → DataW.Trod enc Try.prog W' 0 (fun b => decide (b < W.heap.size)) true 22 v d ps :=
    fun h hl => Below.trod Try.laidOut (by kernel_rfl) (of_decide_eq_true (by kernel_rfl)) h hb hl
  refine ⟨_, rfl, _, _, _, [], p, [], hW', ?_, ?_, rfl, hb.frame _, fun h => by cases h⟩
  · exact trodAll_mk1 (shut_bool (by kernel_rfl) true)
  · exact trodAll_mk1 (ha h0 (fun x hx => hlt x hx))

theorem heapApart_holds : Rows.HeapApartSaid :=
  OpenClaim.holds_of_wide 4 Try.f4 rfl rfl rfl rfl rfl rfl rfl ⟨rfl, rfl, rfl, rfl, rfl⟩ rfl rfl rfl rfl rfl (by kernel_rfl) Try.func4 (by kernel_rfl)
    (of_decide_eq_true (by kernel_rfl)) (by unfold Func.isWrapper; rw [if_neg (of_decide_eq_false (by kernel_rfl))]; exact ⟨rfl, rfl⟩)
    (fun os started H enc _ => heapApart_lifted os started H enc)
end Go.Proofs.Ytnfoabccbkedgaa

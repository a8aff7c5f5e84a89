/- HeapBack: for every two lists of steps and every turn the law returns true; its arguments read as before. No condition beyond the given row's own. -/
import Derived.Test.YtnfoabccbkedgaaHeapL
import Derived.Test.YtnfoabccbkedgaaRow
namespace Go.Proofs.Ytnfoabccbkedgaa
open Go.ChangeShapes Go.WideShapes Go.ChangeAt Go.RowKit

theorem heapBack_any (a1 a2 : Option Addr) (xs1 xs2 : List Int) (c1 c2 : Nat) (t : Int) (w : World)
    (hx1 : IntsAt w a1 xs1) (hx2 : IntsAt w a2 xs2) (hr1 : ∀ x ∈ xs1, -9223372036854775808 ≤ x ∧ x < 9223372036854775808) (hr2 : ∀ x ∈ xs2, -9223372036854775808 ≤ x ∧ x < 9223372036854775808) :
    Calls Try.prog 5 #[.slice a1 xs1.length c1, .slice a2 xs2.length c2, .int .i64 t] w (lawPost w) := by
  by_cases h : 300 < xs1.length ∨ 300 < xs2.length
  · exact back_long_any a1 a2 _ _ c1 c2 t w h
  · exact back_short a1 a2 xs1 xs2 c1 c2 t w (by omega) (by omega) hx1 hx2 hr1 hr2

set_option maxRecDepth 100000 in
theorem heapBack_lifted (os : Os) (started : os.Started) (H : Type) (enc : TypeId × Value → H) :
    ReturnsInHanded {} Try.checked os 5 .any (Rows.heapBackSpec.pre6 enc Try.prog Try.f5 Rows.heapBackRow.domain false) (Rows.heapBackSpec.post enc Try.prog Try.f5 false true false false) := by
  refine returnsInHanded_of_change (C := Try.checked) Try.own started (by kernel_rfl) Try.func5
    (ChangeSpec.witness6 (enc := enc) (C := Try.checked) false ⟨#[], #[.slice none 0 0, .slice none 0 0, .int .i64 0], []⟩ 8 (by kernel_rfl) (by kernel_rfl) (by kernel_rfl) (by kernel_rfl)) ?_
  intro W base args ds gs before hval0 hW hcnd _
  have hval : ∀ (j : Nat) t v, Try.f5.params[j]? = some t → args[j]? = some v → Value.okWide Try.prog W .any base t v := hval0
  have hW' := hW
  obtain ⟨p, q, hA0, hV, rfl, hfz, hnd⟩ := hW
  have hA : DataW.TrodAll enc Try.prog W 0 (fun _ => true) true Try.f5.params.toList args.toList ds p := hA0
  rw [Try.params5] at hA hval
  obtain ⟨v0, v1, v2, d0, d1, d2, p0, p1, p2, rfl, rfl, rfl, h0, h1, h2⟩ := trodAll_three hA
  obtain ⟨rfl, rfl⟩ := trodVars_none hV
  clear hA0 hval0
  simp only [List.append_nil] at hW'
  have hlt : ∀ x ∈ p0 ++ (p1 ++ p2), x.block < W.heap.size := fun x hx => by simpa using hW'.lt x (by simpa using hx)
  obtain ⟨a1, xs1, c1, rfl, hx1, hr1⟩ := arg_ints (hval 0 22 v0 rfl rfl) h0
  obtain ⟨a2, xs2, c2, rfl, hx2, hr2⟩ := arg_ints (hval 1 22 v1 rfl rfl) h1
  obtain ⟨t, rfl, rfl, rfl, wt⟩ := open_int Try.underlying3 (hval 2 3 v2 rfl rfl) h2
  refine (heapBack_any a1 a2 xs1 xs2 c1 c2 t W hx1 hx2 hr1 hr2).mono fun e W' ⟨he, hk⟩ => ?_
  subst he
  have hb : Below W.heap.size W W' := hk.below (Nat.le_refl _) (fun _ _ x => x)
  have ha : ∀ {v d ps}, DataW.Trod enc Try.prog W 0 (fun _ => true) true 22 v d ps → (∀ x ∈ ps, x.block < W.heap.size) → DataW.Trod enc Try.prog W' 0 (fun b => decide (b < W.heap.size)) true 22 v d ps :=
    fun h hl => Below.trod Try.laidOut (by kernel_rfl) (of_decide_eq_true (by kernel_rfl)) h hb hl
  refine ⟨_, rfl, _, _, _, [], p0 ++ (p1 ++ []), [], hW', ?_, ?_, rfl, hb.frame _, fun h => by cases h⟩
  · exact trodAll_mk1 (shut_bool (by kernel_rfl) true)
  · exact trodAll_mk3 (ha h0 (fun x hx => hlt x (by simp [hx]))) (ha h1 (fun x hx => hlt x (by simp [hx]))) (shut_int Try.underlying3 wt)

theorem heapBack_holds : Rows.HeapBackSaid :=
  OpenClaim.holds_of_wide 5 Try.f5 rfl rfl rfl rfl rfl rfl rfl ⟨rfl, rfl, rfl, rfl, rfl⟩ rfl rfl rfl rfl rfl (by kernel_rfl) Try.func5 (by kernel_rfl)
    (of_decide_eq_true (by kernel_rfl)) (by unfold Func.isWrapper; rw [if_neg (of_decide_eq_false (by kernel_rfl))]; exact ⟨rfl, rfl⟩)
    (fun os started H enc _ => heapBack_lifted os started H enc)
end Go.Proofs.Ytnfoabccbkedgaa

/- Keywords; the library's tables. -/
import Derived.Test.YtcbifoimfhfccaaGreatDoorLexH
namespace Go.Proofs.YtcbifoimfhfccaaGreatDoor
open Go.RowKit

/-- What stands in the library's variables. -/
structure Tab (w : World) : Prop where
  space : Lib.TabIs Tryz.prog w "strings.asciiSpace" .u8 Lib.asciiSpaceTab
  pow : Lib.TabIs Tryz.prog w "internal/strconv.uint64pow10" .u64 Lib.pow10Tab
  len : ∃ m, w.cell? ⟨0, 0, none⟩ = some (.int .i64 m)
theorem var_kb {P : Program} {w w' : World} {n : String} {cs : Array Value} (hk : KB (fun _ => False) w w') (h : w.var? P n = some cs) : w'.var? P n = some cs := by
  unfold World.var? at h ⊢
  cases hg : P.globalNamed n with
  | none => simp [hg] at h
  | some g =>
    simp only [hg, Option.bind_some] at h ⊢
    cases ho : w.heap[g]? with
    | none => simp [ho] at h
    | some o => rw [hk.heap (fun x => x) ho]; simpa [ho] using h
theorem Tab.kb {w w' : World} (h : Tab w) (hk : KB F0 w w') : Tab w' := ⟨var_kb hk h.space, var_kb hk h.pow, by obtain ⟨m, hm⟩ := h.len; exact ⟨m, hk.cell (p := ⟨0, 0, none⟩) (fun x => x) hm⟩⟩
def wtext : ByteArray := ⟨#[102, 110, 32, 115, 116, 114, 117, 99, 116, 32, 108, 101, 116, 32, 105, 102, 32, 101, 108, 115, 101, 32, 108, 111, 111, 112, 32, 119, 104, 105, 108, 101, 32, 98, 114, 101, 97, 107, 32, 99, 111, 110, 116, 105, 110, 117, 101, 32, 114, 101, 116, 117, 114, 110, 32, 116, 114, 117, 101, 32, 102, 97, 108, 115, 101, 32, 109, 117, 116, 32, 112, 114, 105, 110, 116, 32, 114, 101, 97, 100, 32, 98, 111, 120, 32, 105, 54, 52, 32, 98, 111, 111, 108, 32, 66, 111, 120]⟩
def wlist : List (List UInt8) := [[102, 110], [115, 116, 114, 117, 99, 116], [108, 101, 116], [105, 102], [101, 108, 115, 101], [108, 111, 111, 112], [119, 104, 105, 108, 101], [98, 114, 101, 97, 107], [99, 111, 110, 116, 105, 110, 117, 101], [114, 101, 116, 117, 114, 110], [116, 114, 117, 101], [102, 97, 108, 115, 101], [109, 117, 116], [112, 114, 105, 110, 116], [114, 101, 97, 100], [98, 111, 120], [105, 54, 52], [98, 111, 111, 108], [66, 111, 120]]
set_option maxRecDepth 100000 in
theorem w_fields : Lib.fields wtext.data.toList = wlist := by decide +kernel
set_option maxRecDepth 100000 in
theorem w_ascii : ∀ (j : Nat) b, wtext.data.toList[j]? = some b → b.toNat < 128 := fun j b h => by
  have : ∀ b ∈ wtext.data.toList, b.toNat < 128 := by decide +kernel
  exact this b (List.mem_of_getElem? h)
theorem w_list : (wlist.map fun l => (⟨l.toArray⟩ : ByteArray)) = wordL := rfl
theorem fields_w (w : World) (hT : Tab w) : Calls Tryz.prog 79 #[.string wtext] w fun e w' => ∃ g, e = .returned (.slice (some ⟨g, 0, none⟩) 19 19) ∧ SL w' g wordL ∧ KB F0 w w' := by
  have h := Tryz.strings_Fields_laid wtext w (by decide +kernel) w_ascii hT.space
  rw [w_fields] at h
  refine h.mono ?_
  rintro e w' ⟨rfl, rfl⟩
  rw [show (wlist.map fun l => Value.string ⟨l.toArray⟩) = wordL.map Value.string from rfl]
  exact ⟨_, rfl, alloc_new _ _, (KB.refl F0 w).alloc _⟩
set_option maxRecDepth 100000 in
theorem words_any (w : World) (hT : Tab w) : Calls Tryz.prog 52 #[] w fun e w' => ∃ g, e = .returned (.slice (some ⟨g, 0, none⟩) 19 19) ∧ SL w' g wordL ∧ KB F0 w w' := by
  have Hf := Lib.hid (fields_w w hT)
  clear hT
  go_enter Tryz.func52, Tryz.ntmps52
  go_wp2_with fail
  refine Hf.out.mono ?_
  rintro e w' ⟨g, rfl, h1, h2⟩
  have H := Lib.hid (And.intro h1 h2)
  clear h1 h2
  go_wp2
  go_ret
  exact ⟨g, rfl, H.out.1, H.out.2⟩
theorem wordB_eq (x : ByteArray) : Lib.containsS wordL x = wordB x := by
  rw [Bool.eq_iff_iff, Lib.containsS_iff]
  rw [wordB_iff]
theorem contains_w (g : Nat) (x : ByteArray) (w : World) (h : SL w g wordL) : Calls Tryz.prog 51 #[.slice (some ⟨g, 0, none⟩) 19 19, .string x] w fun e w' => e = .returned (.bool (wordB x)) ∧ w' = w := by
  have hc := Tryz.slices_Contains_string g 0 19 19 wordL x w (by decide) (by omega) (fun j hj => by rw [Nat.zero_add]; exact h.cell hj)
  rw [List.take_of_length_le (by decide), wordB_eq] at hc
  exact hc
end Go.Proofs.YtcbifoimfhfccaaGreatDoor

/- A builder that holds a text: written, asked, read. -/
import Derived.Test.YtcbifoimfhfccaaGreatDoorLexQc
namespace Go.Proofs.YtcbifoimfhfccaaGreatDoor
open Go.RowKit

/-- At b a builder that holds the text s. -/
def BU (w : World) (B b : Nat) (s : ByteArray) : Prop := Lib.IsBuilderF 69 5 B b (Lib.strCells s) w
theorem builderAt_kb {w w' : World} {B b : Nat} {p : Value} {bs : List Value} (h : Lib.BuilderAtF 69 5 B b p bs w) (hk : KB F0 w w') : Lib.BuilderAtF 69 5 B b p bs w' := by
  obtain ⟨hB, v, hb, ⟨h1, h2⟩, hne⟩ := h
  refine ⟨hB, v, hk.heap (fun x => x) hb, ⟨h1, ?_⟩, hne⟩
  rcases h2 with h2 | ⟨g, cap, cur, fz, hv, hg, hh, r⟩
  · exact Or.inl h2
  · exact Or.inr ⟨g, cap, cur, fz, hv, hg, hk.heap (fun x => x) hh, r⟩
theorem BU.kb {w w' : World} {B b : Nat} {s : ByteArray} (h : BU w B b s) (hk : KB F0 w w') : BU w' B b s := by
  rcases h with h | h
  · exact Or.inl (builderAt_kb h hk)
  · exact Or.inr (builderAt_kb h hk)
theorem cells_app (s x : ByteArray) : Lib.strCells s ++ Lib.strCells x = Lib.strCells (s ++ x) := by
  rw [Lib.strCells_eq, Lib.strCells_eq, Lib.strCells_eq, ByteArray.data_append, Array.toList_append, Lib.byteCells_append]
theorem bu_new (w : World) {B : Nat} (hB : B ≤ w.heap.size) : BU (w.alloc (.cells #[.pointer none, .slice none 0 0] 69)) B w.heap.size ByteArray.empty := by
  refine Or.inl ⟨hB, .slice none 0 0, alloc_new _ _, World.ownsRowF_of (World.ownsRow_nil _ _ _ _), fun h => by cases h⟩
theorem wb_any (B b : Nat) (s : ByteArray) (w : World) (h : BU w B b s) (hs : s.size ≤ 1000000000) (hB : B ≤ w.heap.size) :
    Calls Tryz.prog 42 #[.pointer (some ⟨b, 0, none⟩), .int .u8 32] w fun e w' => e = .returned .nilIface ∧ (BU w' B b (s ++ ⟨#[32]⟩) ∧ Below B w w' ∧ Lib.OthersKept 5 (some b) w w') := by
  refine (wbyte_any B b _ 32 w h (by rw [Lib.strCells_length]; omega) hB).mono ?_
  rintro e w' ⟨rfl, h1, h2⟩
  refine ⟨rfl, Or.inr ?_, h2⟩
  rw [← cells_app]
  exact h1
theorem ws_any (B b : Nat) (s x : ByteArray) (w : World) (h : BU w B b s) (hs : s.size + x.size ≤ 1000000000) (hB : B ≤ w.heap.size) :
    Calls Tryz.prog 43 #[.pointer (some ⟨b, 0, none⟩), .string x] w fun e w' => e = .returned (.tuple #[.int .i64 x.size, .nilIface]) ∧ (BU w' B b (s ++ x) ∧ Below B w w' ∧ Lib.OthersKept 5 (some b) w w') := by
  refine (wstr_any B b _ x w h (by rw [Lib.strCells_length]; omega) hB).mono ?_
  rintro e w' ⟨rfl, h1, h2⟩
  refine ⟨rfl, Or.inr ?_, h2⟩
  rw [← cells_app]
  exact h1
theorem str_any (B b : Nat) (s : ByteArray) (w : World) (h : BU w B b s) (hB : B ≤ w.heap.size) :
    Calls Tryz.prog 45 #[.pointer (some ⟨b, 0, none⟩)] w fun e w' => e = .returned (.string s) ∧ Below B w w' := by
  refine (Tryz.Builder_String_any_f B b s.data.toList w h hB).mono ?_
  rintro e w' ⟨rfl, h1, h2⟩
  exact ⟨by simp, h2⟩
set_option maxRecDepth 100000 in
set_option maxHeartbeats 4000000 in
theorem len_any (B b : Nat) (s : ByteArray) (w : World) (h : BU w B b s) :
    Calls Tryz.prog 44 #[.pointer (some ⟨b, 0, none⟩)] w fun e w' => e = .returned (.int .i64 s.size) ∧ w = w' := by
  obtain ⟨p, hB, v, hbk, hown, hne⟩ : ∃ p, Lib.BuilderAtF 69 5 B b p (Lib.strCells s) w := by
    rcases h with h | h
    · exact ⟨_, h⟩
    · exact ⟨_, h⟩
  obtain ⟨ao, cap, rfl⟩ : ∃ ao cap, v = .slice ao s.size cap := by
    rw [Lib.strCells_length] at hown
    rcases hown.2 with ⟨hv, h0⟩ | ⟨g, cap, cur, fz, hv, _⟩
    · exact ⟨none, 0, by rw [hv, h0]⟩
    · exact ⟨_, _, hv⟩
  have c1 : w.cell? ⟨b, 1, none⟩ = some (.slice ao s.size cap) := by rw [Lib.cell_of_heap hbk]; rfl
  clear hbk hown hne hB h
  go_enter Tryz.func44, Tryz.ntmps44
  go_wp2_with fail
  go_ret
  exact ⟨rfl, rfl⟩
/-- What a call leaves that writes only above B. -/
theorem kb_below {w0 w w' : World} (h : KB F0 w0 w) (hb : Below w0.heap.size w w') : KB F0 w0 w' :=
  ⟨hb.os.trans h.os, hb.tape.trans h.tape, hb.output.trans h.output, Nat.le_trans h.size hb.size, fun k hk hn => (hb.block k hk).trans (h.block k hk hn)⟩
end Go.Proofs.YtcbifoimfhfccaaGreatDoor

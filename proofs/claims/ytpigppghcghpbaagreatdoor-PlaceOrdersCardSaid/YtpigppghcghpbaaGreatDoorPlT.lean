/- strconv.Atoi; place.Read. -/
import Derived.Test.YtpigppghcghpbaaGreatDoorPlR
import Derived.Test.YtpigppghcghpbaaGreatDoorPlS
import Derived.Lib.SplitLaws
namespace Go.Proofs.YtpigppghcghpbaaGreatDoor
open Go.RowKit

theorem kb_bytes {w w' : World} (h : w' = w ∨ ∃ t, w' = Lib.bytesWorld w 5 t) : KB F0 w w' := by
  rcases h with rfl | ⟨t, rfl⟩
  · exact KB.refl _ _
  · exact ⟨rfl, rfl, rfl, by rw [Lib.bytesWorld_size]; omega, fun k hk _ => Lib.bytesWorld_at_old w _ t k hk⟩
/-- What Atoi answers: a number and no error, or an error. -/
def AtoiOut (l : List UInt8) (w' : World) (e : Ending) : Prop :=
  (∃ v, Lib.atoiAll l = .ok v ∧ e = .returned (.tuple #[.int .i64 v, .nilIface])) ∨ ((∀ v, Lib.atoiAll l ≠ .ok v) ∧ ∃ n N, e = .returned (.tuple #[.int .i64 n, .iface 131 (.pointer (some ⟨N, 0, none⟩))]))
theorem atoi_any (s : ByteArray) (hs : s.size ≤ 1000000000) (w : World) (hT : TabP w) : Calls Tryz.prog 52 #[.string s] w fun e w' => AtoiOut s.data.toList w' e ∧ KB F0 w w' := by
  rcases ha : Lib.atoiAll s.data.toList with v | _ | _
  · refine (Tryz.strconv_Atoi_ok s (by omega) v ha w).mono ?_
    rintro e w' ⟨rfl, hk⟩
    exact ⟨Or.inl ⟨v, ha, rfl⟩, kb_bytes hk⟩
  · obtain ⟨tp, p, hv⟩ := hT.syn
    refine (Any.strconv_Atoi_syntax_var Tryz.laysC172 s (by omega) ha tp p w hv).mono ?_
    rintro e w' ⟨N, rfl, -, -, hk⟩
    exact ⟨Or.inr ⟨fun v h => (by rw [ha] at h; cases h), _, N, rfl⟩, KB.of_below hk⟩
  · obtain ⟨tp, p, hv⟩ := hT.rng
    refine (Tryz.strconv_Atoi_range_var s (by omega) ha tp p w hv).mono ?_
    rintro e w' ⟨N, rfl, -, -, hk⟩
    exact ⟨Or.inr ⟨fun v h => (by rw [ha] at h; cases h), _, N, rfl⟩, KB.of_below hk⟩
theorem err_ne (N : Nat) (w : World) : (binOp BinOp.neq 84 (.iface 131 (.pointer (some ⟨N, 0, none⟩))) .nilIface).run Tryz.prog w = .ok (.bool true) w := by kernel_rfl
theorem err_eq (w : World) : (binOp BinOp.neq 84 .nilIface .nilIface).run Tryz.prog w = .ok (.bool false) w := by kernel_rfl
/-- Parts lie in a block. -/
def PartsAt (w : World) (g : Nat) (ps : List ByteArray) : Prop := w.heap[g]? = some (.cells (ps.map Value.string).toArray 9 (0, 0))
theorem PartsAt.kb {w w' : World} {g : Nat} {ps : List ByteArray} (h : PartsAt w g ps) (hk : KB F0 w w') : PartsAt w' g ps := hk.heap (fun x => x) h
theorem PartsAt.cell {w : World} {g : Nat} {ps : List ByteArray} (h : PartsAt w g ps) {k : Nat} (hk : k < ps.length) : w.cell? ⟨g, 0 + k, none⟩ = some (.string (ps.getD k ByteArray.empty)) := by
  rw [Nat.zero_add, blk_cell h k]
  simp [List.getD_eq_getElem?_getD, List.getElem?_eq_getElem hk]
theorem split_any (s : ByteArray) (hs : s.size ≤ 1000000000) (w : World) (hT : TabP w) :
    Calls Tryz.prog 51 #[.string s, .string dotB] w fun e w' => ∃ g ps, e = .returned (.slice (some ⟨g, 0, none⟩) ps.length ps.length) ∧ ps.map (·.data.toList) = splL s.data.toList ∧ PartsAt w' g ps ∧ KB F0 w w' := by
  obtain ⟨m, hm⟩ := hT.len
  refine (Tryz.strings_Split s dotB m w (by omega) hm (by decide)).mono ?_
  rintro e w' ⟨rfl, rfl⟩
  refine ⟨w.heap.size, Lib.splitB dotB 0 (Lib.countB s dotB) s, ?_, split_dot s, alloc_new _ _, (KB.refl _ _).alloc _⟩
  rw [Lib.splitB_all dotB (by decide) 0 _ s rfl]
/-- One part's number: what Atoi and Itoa say. -/
theorem num_ok {l : List UInt8} {v : Int} (h : Lib.atoiAll l = .ok v) : numL l = if 0 ≤ v ∧ Lib.itoa v = l then some v.toNat else none := by unfold numL; rw [h]
theorem num_no {l : List UInt8} (h : ∀ v, Lib.atoiAll l ≠ .ok v) : numL l = none := by
  unfold numL
  rcases ha : Lib.atoiAll l with v | _ | _
  · exact absurd ha (h v)
  · rfl
  · rfl
end Go.Proofs.YtpigppghcghpbaaGreatDoor

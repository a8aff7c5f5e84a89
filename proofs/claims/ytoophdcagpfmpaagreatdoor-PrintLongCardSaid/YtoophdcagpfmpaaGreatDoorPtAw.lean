/- loanwordlaw05.awake. -/
import Derived.Test.YtoophdcagpfmpaaGreatDoorMg46
import Derived.Test.YtoophdcagpfmpaaGreatDoorMg44
namespace Go.Proofs.YtoophdcagpfmpaaGreatDoor
open Go.RowKit

theorem aw5_ok : ∀ x ∈ aw5, NdOk x := fun x hx => by
  unfold aw5 at hx
  simp only [List.mem_cons, List.not_mem_nil, or_false] at hx
  rcases hx with rfl | rfl | rfl | rfl | rfl <;> exact ⟨by decide, by decide, by decide, by decide, by decide, by decide, by decide⟩
theorem awT_ok : ∀ x ∈ awT, NdOk x := fun x hx => by
  unfold awT at hx
  simp only [List.mem_cons, List.not_mem_nil, or_false] at hx
  subst hx; exact ⟨by decide, by decide, by decide, by decide, by decide, by decide, by decide⟩
theorem awL_ok : ∀ x ∈ awL, NdOk x := fun x hx => by
  unfold awL at hx
  simp only [List.mem_cons, List.not_mem_nil, or_false] at hx
  subst hx; exact ⟨by decide, by decide, by decide, by decide, by decide, by decide, by decide⟩
theorem aw5_at {w : World} {b0 b1 b2 b3 g : Nat} (h0 : w.heap[b0]? = some (.cells #[.int .i64 1] 3 (0, 0))) (h1 : w.heap[b1]? = some (.cells #[.int .i64 2] 3 (0, 0))) (h2 : w.heap[b2]? = some (.cells #[.int .i64 3] 3 (0, 0))) (h3 : w.heap[b3]? = some (.cells #[.int .i64 4] 3 (0, 0)))
    (hg : w.heap[g]? = some (.cells #[.int .u8 29, .int .i64 0, .int .i64 0, .string ⟨#[]⟩, .slice (some ⟨b0, 0, none⟩) 1 1, .int .u8 29, .int .i64 0, .int .i64 1, .string ⟨#[]⟩, .slice (some ⟨b1, 0, none⟩) 1 1, .int .u8 27, .int .i64 0, .int .i64 0, .string ⟨#[102]⟩, .slice (some ⟨b2, 0, none⟩) 1 1, .int .u8 28, .int .i64 0, .int .i64 0, .string ⟨#[]⟩, .slice (some ⟨b3, 0, none⟩) 1 1, .int .u8 26, .int .i64 0, .int .i64 0, .string ⟨#[120]⟩, .slice none 0 0] 44 (0, 0))) : NodesAt w (some ⟨g, 0, none⟩) aw5 := by
  have hin : ∀ {b : Nat} {v : Int}, w.heap[b]? = some (.cells #[.int .i64 v] 3 (0, 0)) → IntsAt w (some ⟨b, 0, none⟩) [v] := fun hb j hj => by
    obtain rfl : j = 0 := by simp at hj; omega
    exact ⟨_, 0, rfl, blk_cell hb 0⟩
  intro i hi
  have hi : i < 5 := hi
  obtain rfl | rfl | rfl | rfl | rfl : i = 0 ∨ i = 1 ∨ i = 2 ∨ i = 3 ∨ i = 4 := by omega
  · exact ⟨g, 0, rfl, blk_cell hg 0, blk_cell hg 1, blk_cell hg 2, blk_cell hg 3, _, 1, blk_cell hg 4, hin h0, Nat.le_refl _, by unfold maxLen; omega⟩
  · exact ⟨g, 0, rfl, blk_cell hg 5, blk_cell hg 6, blk_cell hg 7, blk_cell hg 8, _, 1, blk_cell hg 9, hin h1, Nat.le_refl _, by unfold maxLen; omega⟩
  · exact ⟨g, 0, rfl, blk_cell hg 10, blk_cell hg 11, blk_cell hg 12, blk_cell hg 13, _, 1, blk_cell hg 14, hin h2, Nat.le_refl _, by unfold maxLen; omega⟩
  · exact ⟨g, 0, rfl, blk_cell hg 15, blk_cell hg 16, blk_cell hg 17, blk_cell hg 18, _, 1, blk_cell hg 19, hin h3, Nat.le_refl _, by unfold maxLen; omega⟩
  · exact ⟨g, 0, rfl, blk_cell hg 20, blk_cell hg 21, blk_cell hg 22, blk_cell hg 23, none, 0, blk_cell hg 24, fun j hj => absurd hj (by simp [aw5]), Nat.le_refl _, by unfold maxLen; omega⟩
set_option maxRecDepth 100000 in
set_option maxHeartbeats 8000000 in
theorem awake5_any (w : World) (hT : PT w) : Calls Tryz.prog 9 #[] w fun e w' => e = .returned (.bool true) ∧ KB F0 w w' := by
  obtain ⟨w0, rfl⟩ : ∃ w0, w0 = w := ⟨_, rfl⟩
  have HT := Lib.hid hT
  clear hT
  have CE : Hid (∀ W a cap, KB F0 w0 W → NodesAt W a aw5 → Calls Tryz.prog 12 #[.agg #[.slice a 5 cap]] W fun e w' => e = .returned (.tuple #[.string ⟨#[38, 32, 38, 109, 117, 116, 32, 40, 42, 120, 41, 46, 102]⟩, .int .i64 0]) ∧ KB F0 W w') := Lib.hid (fun W a cap hk hn => by
    have h := pexpr_any aw5 (by decide) aw5_ok a cap W hn (HT.out.kb hk)
    rw [aw5_expr] at h
    exact h)
  have CL : Hid (∀ W a cap, KB F0 w0 W → NodesAt W a aw5 → Calls Tryz.prog 19 #[.agg #[.slice a 5 cap], .int .i64 2] W fun e w' => e = .returned (.tuple #[.int .i64 7, .int .i64 0]) ∧ KB F0 W w') := Lib.hid (fun W a cap hk hn => by
    have h := plevel_any aw5 (by decide) aw5_ok a cap 2 W hn (HT.out.kb hk)
    rw [aw5_level] at h
    exact h)
  have CT : Hid (∀ W a cap, KB F0 w0 W → NodesAt W a awT → Calls Tryz.prog 13 #[.agg #[.slice a 1 cap]] W fun e w' => e = .returned (.tuple #[.string ⟨#[105, 54, 52]⟩, .int .i64 0]) ∧ KB F0 W w') := Lib.hid (fun W a cap hk hn => by
    have h := ptype_any awT (by decide) awT_ok a cap W hn (HT.out.kb hk)
    rw [aw5_type] at h
    exact h)
  have CN : Hid (∀ W a cap, KB F0 w0 W → NodesAt W a awL → Calls Tryz.prog 17 #[.agg #[.slice a 1 cap]] W fun e w' => ∃ g c, e = .returned (.tuple #[.slice (some ⟨g, 0, none⟩) 2 c, .int .i64 0]) ∧ w'.cell? ⟨g, 0, none⟩ = some (.string ⟨#[123]⟩) ∧ KB F0 W w') := Lib.hid (fun W a cap hk hn => by
    refine (plines_any awL (by decide) awL_ok a cap W hn (HT.out.kb hk)).mono ?_
    rw [aw5_lines]
    rintro e w' ⟨v, rfl, h1, h2⟩
    obtain ⟨a1, c1, rfl, -, -, h3, -⟩ := own_shape h1
    obtain ⟨g, rfl, -, h4⟩ := h3 0 (by decide)
    exact ⟨g, c1, rfl, h4, h2⟩)
  have CF : Hid (∀ W a cap, KB F0 w0 W → NodesAt W a aw5 → Calls Tryz.prog 11 #[.agg #[.slice a 5 cap]] W fun e w' => ∃ s, e = .returned (.tuple #[.string s, .int .i64 2]) ∧ KB F0 W w') := Lib.hid (fun W a cap hk hn => by
    refine (pfile_any aw5 (by decide) aw5_ok a cap W hn (HT.out.kb hk)).mono ?_
    rw [aw5_file]
    rintro e w' ⟨rfl, h1⟩
    exact ⟨_, rfl, h1⟩)
  obtain ⟨V1, hV1⟩ : ∃ V, V = w0.alloc (.cells #[.int .i64 1] 3) := ⟨_, rfl⟩
  have s1 : V1.heap.size = w0.heap.size + 1 := by rw [hV1]; simp
  have e1 : KB F0 w0 V1 := by rw [hV1]; exact (KB.refl _ _).alloc _
  obtain ⟨V2, hV2⟩ : ∃ V, V = V1.alloc (.cells #[.int .i64 2] 3) := ⟨_, rfl⟩
  have s2 : V2.heap.size = w0.heap.size + 1 + 1 := by rw [hV2]; simp [s1]
  have e2 : KB F0 V1 V2 := by rw [hV2]; exact (KB.refl _ _).alloc _
  obtain ⟨V3, hV3⟩ : ∃ V, V = V2.alloc (.cells #[.int .i64 3] 3) := ⟨_, rfl⟩
  have s3 : V3.heap.size = w0.heap.size + 1 + 1 + 1 := by rw [hV3]; simp [s2]
  have e3 : KB F0 V2 V3 := by rw [hV3]; exact (KB.refl _ _).alloc _
  obtain ⟨V4, hV4⟩ : ∃ V, V = V3.alloc (.cells #[.int .i64 4] 3) := ⟨_, rfl⟩
  have s4 : V4.heap.size = w0.heap.size + 1 + 1 + 1 + 1 := by rw [hV4]; simp [s3]
  have e4 : KB F0 V3 V4 := by rw [hV4]; exact (KB.refl _ _).alloc _
  obtain ⟨V5, hV5⟩ : ∃ V, V = V4.alloc (.cells #[.int .u8 29, .int .i64 0, .int .i64 0, .string ⟨#[]⟩, .slice (some ⟨w0.heap.size, 0, none⟩) 1 1, .int .u8 29, .int .i64 0, .int .i64 1, .string ⟨#[]⟩, .slice (some ⟨w0.heap.size + 1, 0, none⟩) 1 1, .int .u8 27, .int .i64 0, .int .i64 0, .string ⟨#[102]⟩, .slice (some ⟨w0.heap.size + 1 + 1, 0, none⟩) 1 1, .int .u8 28, .int .i64 0, .int .i64 0, .string ⟨#[]⟩, .slice (some ⟨w0.heap.size + 1 + 1 + 1, 0, none⟩) 1 1, .int .u8 26, .int .i64 0, .int .i64 0, .string ⟨#[120]⟩, .slice none 0 0] 44) := ⟨_, rfl⟩
  have s5 : V5.heap.size = w0.heap.size + 1 + 1 + 1 + 1 + 1 := by rw [hV5]; simp [s4]
  have e5 : KB F0 V4 V5 := by rw [hV5]; exact (KB.refl _ _).alloc _
  obtain ⟨V6, hV6⟩ : ∃ V, V = V5.alloc (.cells #[.slice (some ⟨w0.heap.size + 1 + 1 + 1 + 1, 0, none⟩) 5 5] 24) := ⟨_, rfl⟩
  have s6 : V6.heap.size = w0.heap.size + 1 + 1 + 1 + 1 + 1 + 1 := by rw [hV6]; simp [s5]
  have e6 : KB F0 V5 V6 := by rw [hV6]; exact (KB.refl _ _).alloc _
  have g1 : V6.heap[w0.heap.size]? = some (.cells #[.int .i64 1] 3 (0, 0)) := ((((e2.trans e3).trans e4).trans e5).trans e6).heap (fun x => x) (by
    have := alloc_new w0 (.cells #[.int .i64 1] 3)
    rw [← hV1] at this
    exact this)
  have g2 : V6.heap[w0.heap.size + 1]? = some (.cells #[.int .i64 2] 3 (0, 0)) := (((e3.trans e4).trans e5).trans e6).heap (fun x => x) (by
    have := alloc_new V1 (.cells #[.int .i64 2] 3)
    rw [s1, ← hV2] at this
    exact this)
  have g3 : V6.heap[w0.heap.size + 1 + 1]? = some (.cells #[.int .i64 3] 3 (0, 0)) := ((e4.trans e5).trans e6).heap (fun x => x) (by
    have := alloc_new V2 (.cells #[.int .i64 3] 3)
    rw [s2, ← hV3] at this
    exact this)
  have g4 : V6.heap[w0.heap.size + 1 + 1 + 1]? = some (.cells #[.int .i64 4] 3 (0, 0)) := (e5.trans e6).heap (fun x => x) (by
    have := alloc_new V3 (.cells #[.int .i64 4] 3)
    rw [s3, ← hV4] at this
    exact this)
  have g5 : V6.heap[w0.heap.size + 1 + 1 + 1 + 1]? = some (.cells #[.int .u8 29, .int .i64 0, .int .i64 0, .string ⟨#[]⟩, .slice (some ⟨w0.heap.size, 0, none⟩) 1 1, .int .u8 29, .int .i64 0, .int .i64 1, .string ⟨#[]⟩, .slice (some ⟨w0.heap.size + 1, 0, none⟩) 1 1, .int .u8 27, .int .i64 0, .int .i64 0, .string ⟨#[102]⟩, .slice (some ⟨w0.heap.size + 1 + 1, 0, none⟩) 1 1, .int .u8 28, .int .i64 0, .int .i64 0, .string ⟨#[]⟩, .slice (some ⟨w0.heap.size + 1 + 1 + 1, 0, none⟩) 1 1, .int .u8 26, .int .i64 0, .int .i64 0, .string ⟨#[120]⟩, .slice none 0 0] 44 (0, 0)) := e6.heap (fun x => x) (by
    have := alloc_new V4 (.cells #[.int .u8 29, .int .i64 0, .int .i64 0, .string ⟨#[]⟩, .slice (some ⟨w0.heap.size, 0, none⟩) 1 1, .int .u8 29, .int .i64 0, .int .i64 1, .string ⟨#[]⟩, .slice (some ⟨w0.heap.size + 1, 0, none⟩) 1 1, .int .u8 27, .int .i64 0, .int .i64 0, .string ⟨#[102]⟩, .slice (some ⟨w0.heap.size + 1 + 1, 0, none⟩) 1 1, .int .u8 28, .int .i64 0, .int .i64 0, .string ⟨#[]⟩, .slice (some ⟨w0.heap.size + 1 + 1 + 1, 0, none⟩) 1 1, .int .u8 26, .int .i64 0, .int .i64 0, .string ⟨#[120]⟩, .slice none 0 0] 44)
    rw [s4, ← hV5] at this
    exact this)
  have g6 : V6.heap[w0.heap.size + 1 + 1 + 1 + 1 + 1]? = some (.cells #[.slice (some ⟨w0.heap.size + 1 + 1 + 1 + 1, 0, none⟩) 5 5] 24 (0, 0)) := by
    have := alloc_new V5 (.cells #[.slice (some ⟨w0.heap.size + 1 + 1 + 1 + 1, 0, none⟩) 5 5] 24)
    rw [s5, ← hV6] at this
    exact this
  have kV : KB F0 w0 V6 := ((((e1.trans e2).trans e3).trans e4).trans e5).trans e6
  have hnd : NodesAt V6 (some ⟨w0.heap.size + 1 + 1 + 1 + 1, 0, none⟩) aw5 := aw5_at g1 g2 g3 g4 g5
  have HV := Lib.hid (And.intro kV (And.intro hnd g6))
  have HE := Lib.hid (And.intro hV1 (And.intro hV2 (And.intro hV3 (And.intro hV4 (And.intro hV5 hV6)))))
  clear hV1 hV2 hV3 hV4 hV5 hV6 s1 s2 s3 s4 s5 s6 e1 e2 e3 e4 e5 e6 g1 g2 g3 g4 g5 g6 kV hnd
  clear HT
  go_enter Tryz.func9, Tryz.ntmps9
  go_wp2_with fail
  rw [← HE.out.1, ← HE.out.2.1, ← HE.out.2.2.1, ← HE.out.2.2.2.1, ← HE.out.2.2.2.2.1, ← HE.out.2.2.2.2.2]
  refine (CE.out _ _ _ HV.out.1 HV.out.2.1).mono ?_
  rintro e w1 ⟨rfl, k1⟩
  have c0 : w1.cell? ⟨w0.heap.size + 1 + 1 + 1 + 1 + 1, 0, none⟩ = some (.slice (some ⟨w0.heap.size + 1 + 1 + 1 + 1, 0, none⟩) 5 5) := blk_cell (k1.heap (fun x => x) HV.out.2.2) 0
  have K1 := Lib.hid k1
  clear k1
  go_wp2_with fail
  refine (CL.out _ _ _ (HV.out.1.trans K1.out) (HV.out.2.1.kbF K1.out)).mono ?_
  rintro e w2 ⟨rfl, k2⟩
  have c0 := k2.cell (p := ⟨w0.heap.size + 1 + 1 + 1 + 1 + 1, 0, none⟩) (fun x => x) c0
  have K2 := Lib.hid (K1.out.trans k2)
  clear k2
  go_wp2_with fail
  refine (one5_any 8 w2).mono ?_
  rintro e w3 ⟨g3, rfl, hn3, k3⟩
  have c0 := k3.cell (p := ⟨w0.heap.size + 1 + 1 + 1 + 1 + 1, 0, none⟩) (fun x => x) c0
  have K3 := Lib.hid (And.intro (K2.out.trans k3) hn3)
  clear k3 hn3
  go_wp2_with fail
  refine (CT.out _ _ _ (HV.out.1.trans K3.out.1) K3.out.2).mono ?_
  rintro e w4 ⟨rfl, k4⟩
  have c0 := k4.cell (p := ⟨w0.heap.size + 1 + 1 + 1 + 1 + 1, 0, none⟩) (fun x => x) c0
  have K4 := Lib.hid (K3.out.1.trans k4)
  clear k4
  go_wp2_with fail
  refine (one5_any 13 w4).mono ?_
  rintro e w5 ⟨g5, rfl, hn5, k5⟩
  have c0 := k5.cell (p := ⟨w0.heap.size + 1 + 1 + 1 + 1 + 1, 0, none⟩) (fun x => x) c0
  have K5 := Lib.hid (And.intro (K4.out.trans k5) hn5)
  clear k5 hn5
  go_wp2_with fail
  refine (CN.out _ _ _ (HV.out.1.trans K5.out.1) K5.out.2).mono ?_
  rintro e w6 ⟨g6, c6, rfl, hc6, k6⟩
  have c0 := k6.cell (p := ⟨w0.heap.size + 1 + 1 + 1 + 1 + 1, 0, none⟩) (fun x => x) c0
  have K6 := Lib.hid (K5.out.1.trans k6)
  clear k6
  go_wp2_with fail
  refine (CF.out _ _ _ (HV.out.1.trans K6.out) (HV.out.2.1.kbF K6.out)).mono ?_
  rintro e w7 ⟨s7, rfl, k7⟩
  have hc6 := k7.cell (p := ⟨g6, 0, none⟩) (fun x => x) hc6
  have K7 := Lib.hid (HV.out.1.trans (K6.out.trans k7))
  clear k7 c0
  go_wp2_with fail
  go_ret
  exact ⟨rfl, K7.out⟩
end Go.Proofs.YtoophdcagpfmpaaGreatDoor

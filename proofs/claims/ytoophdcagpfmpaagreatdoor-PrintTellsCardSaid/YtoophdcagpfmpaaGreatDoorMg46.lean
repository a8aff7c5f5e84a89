/- loanwordlaw05.awake. loanwordref03.Own. -/
import Derived.Test.YtoophdcagpfmpaaGreatDoorMg45
import Derived.Test.YtoophdcagpfmpaaGreatDoorMg28
import Derived.Test.YtoophdcagpfmpaaGreatDoorMg17
import Derived.Laws.AppendOwnNone
namespace Go.Proofs.YtoophdcagpfmpaaGreatDoor
open Go.RowKit

theorem aw5_ok : ∀ x ∈ aw5, NdOk x := fun x hx => by
  unfold aw5 at hx
  simp only [List.mem_cons, List.not_mem_nil, or_false] at hx
  rcases hx with rfl | rfl | rfl | rfl | rfl <;> exact ⟨by decide, by decide, by decide, by decide, by decide, by decide, by decide⟩
theorem awT_ok : ∀ x ∈ awT, NdOk x := fun x hx => by
  unfold awT at hx
  simp only [List.mem_cons, List.not_mem_nil, or_false] at hx
  subst hx; exact ⟨by decide, by decide, by decide, by decide, by decide, by decide, by decide⟩
theorem awL_ok : ∀ x ∈ awL, NdOk x := fun x hx => by
  unfold awL at hx
  simp only [List.mem_cons, List.not_mem_nil, or_false] at hx
  subst hx; exact ⟨by decide, by decide, by decide, by decide, by decide, by decide, by decide⟩
theorem aw5_at {w : World} {b0 b1 b2 b3 g : Nat} (h0 : w.heap[b0]? = some (.cells #[.int .i64 1] 3 (0, 0))) (h1 : w.heap[b1]? = some (.cells #[.int .i64 2] 3 (0, 0))) (h2 : w.heap[b2]? = some (.cells #[.int .i64 3] 3 (0, 0))) (h3 : w.heap[b3]? = some (.cells #[.int .i64 4] 3 (0, 0)))
    (hg : w.heap[g]? = some (.cells #[.int .u8 29, .int .i64 0, .int .i64 0, .string ⟨#[]⟩, .slice (some ⟨b0, 0, none⟩) 1 1, .int .u8 29, .int .i64 0, .int .i64 1, .string ⟨#[]⟩, .slice (some ⟨b1, 0, none⟩) 1 1, .int .u8 27, .int .i64 0, .int .i64 0, .string ⟨#[102]⟩, .slice (some ⟨b2, 0, none⟩) 1 1, .int .u8 28, .int .i64 0, .int .i64 0, .string ⟨#[]⟩, .slice (some ⟨b3, 0, none⟩) 1 1, .int .u8 26, .int .i64 0, .int .i64 0, .string ⟨#[120]⟩, .slice none 0 0] 44 (0, 0))) : NodesAt w (some ⟨g, 0, none⟩) aw5 := by
  have hin : ∀ {b : Nat} {v : Int}, w.heap[b]? = some (.cells #[.int .i64 v] 3 (0, 0)) → IntsAt w (some ⟨b, 0, none⟩) [v] := fun hb j hj => by
    obtain rfl : j = 0 := by simp at hj; omega
    exact ⟨_, 0, rfl, blk_cell hb 0⟩
  intro i hi
  have hi : i < 5 := hi
  obtain rfl | rfl | rfl | rfl | rfl : i = 0 ∨ i = 1 ∨ i = 2 ∨ i = 3 ∨ i = 4 := by omega
  · exact ⟨g, 0, rfl, blk_cell hg 0, blk_cell hg 1, blk_cell hg 2, blk_cell hg 3, _, 1, blk_cell hg 4, hin h0, Nat.le_refl _, by unfold maxLen; omega⟩
  · exact ⟨g, 0, rfl, blk_cell hg 5, blk_cell hg 6, blk_cell hg 7, blk_cell hg 8, _, 1, blk_cell hg 9, hin h1, Nat.le_refl _, by unfold maxLen; omega⟩
  · exact ⟨g, 0, rfl, blk_cell hg 10, blk_cell hg 11, blk_cell hg 12, blk_cell hg 13, _, 1, blk_cell hg 14, hin h2, Nat.le_refl _, by unfold maxLen; omega⟩
  · exact ⟨g, 0, rfl, blk_cell hg 15, blk_cell hg 16, blk_cell hg 17, blk_cell hg 18, _, 1, blk_cell hg 19, hin h3, Nat.le_refl _, by unfold maxLen; omega⟩
  · exact ⟨g, 0, rfl, blk_cell hg 20, blk_cell hg 21, blk_cell hg 22, blk_cell hg 23, none, 0, blk_cell hg 24, fun j hj => absurd hj (by simp [aw5]), Nat.le_refl _, by unfold maxLen; omega⟩
set_option maxRecDepth 100000 in
set_option maxHeartbeats 8000000 in
theorem awake5_any (w : World) (hT : PT w) : Calls Tryz.prog 9 #[] w fun e w' => e = .returned (.bool true) ∧ KB F0 w w' := by
  obtain ⟨w0, rfl⟩ : ∃ w0, w0 = w := ⟨_, rfl⟩
  have HT := Lib.hid hT
  clear hT
  have CE : Hid (∀ W a cap, KB F0 w0 W → NodesAt W a aw5 → Calls Tryz.prog 12 #[.agg #[.slice a 5 cap]] W fun e w' => e = .returned (.tuple #[.string ⟨#[38, 32, 38, 109, 117, 116, 32, 40, 42, 120, 41, 46, 102]⟩, .int .i64 0]) ∧ KB F0 W w') := Lib.hid (fun W a cap hk hn => by
    have h := pexpr_any aw5 (by decide) aw5_ok a cap W hn (HT.out.kb hk)
    rw [aw5_expr] at h
    exact h)
  have CL : Hid (∀ W a cap, KB F0 w0 W → NodesAt W a aw5 → Calls Tryz.prog 19 #[.agg #[.slice a 5 cap], .int .i64 2] W fun e w' => e = .returned (.tuple #[.int .i64 7, .int .i64 0]) ∧ KB F0 W w') := Lib.hid (fun W a cap hk hn => by
    have h := plevel_any aw5 (by decide) aw5_ok a cap 2 W hn (HT.out.kb hk)
    rw [aw5_level] at h
    exact h)
  have CT : Hid (∀ W a cap, KB F0 w0 W → NodesAt W a awT → Calls Tryz.prog 13 #[.agg #[.slice a 1 cap]] W fun e w' => e = .returned (.tuple #[.string ⟨#[105, 54, 52]⟩, .int .i64 0]) ∧ KB F0 W w') := Lib.hid (fun W a cap hk hn => by
    have h := ptype_any awT (by decide) awT_ok a cap W hn (HT.out.kb hk)
    rw [aw5_type] at h
    exact h)
  have CN : Hid (∀ W a cap, KB F0 w0 W → NodesAt W a awL → Calls Tryz.prog 17 #[.agg #[.slice a 1 cap]] W fun e w' => ∃ g c, e = .returned (.tuple #[.slice (some ⟨g, 0, none⟩) 2 c, .int .i64 0]) ∧ w'.cell? ⟨g, 0, none⟩ = some (.string ⟨#[123]⟩) ∧ KB F0 W w') := Lib.hid (fun W a cap hk hn => by
    refine (plines_any awL (by decide) awL_ok a cap W hn (HT.out.kb hk)).mono ?_
    rw [aw5_lines]
    rintro e w' ⟨v, rfl, h1, h2⟩
    obtain ⟨a1, c1, rfl, -, -, h3, -⟩ := own_shape h1
    obtain ⟨g, rfl, -, h4⟩ := h3 0 (by decide)
    exact ⟨g, c1, rfl, h4, h2⟩)
  have CF : Hid (∀ W a cap, KB F0 w0 W → NodesAt W a aw5 → Calls Tryz.prog 11 #[.agg #[.slice a 5 cap]] W fun e w' => ∃ s, e = .returned (.tuple #[.string s, .int .i64 2]) ∧ KB F0 W w') := Lib.hid (fun W a cap hk hn => by
    refine (pfile_any aw5 (by decide) aw5_ok a cap W hn (HT.out.kb hk)).mono ?_
    rw [aw5_file]
    rintro e w' ⟨rfl, h1⟩
    exact ⟨_, rfl, h1⟩)
  obtain ⟨V1, hV1⟩ : ∃ V, V = w0.alloc (.cells #[.int .i64 1] 3) := ⟨_, rfl⟩
  have s1 : V1.heap.size = w0.heap.size + 1 := by rw [hV1]; simp
  have e1 : KB F0 w0 V1 := by rw [hV1]; exact (KB.refl _ _).alloc _
  obtain ⟨V2, hV2⟩ : ∃ V, V = V1.alloc (.cells #[.int .i64 2] 3) := ⟨_, rfl⟩
  have s2 : V2.heap.size = w0.heap.size + 1 + 1 := by rw [hV2]; simp [s1]
  have e2 : KB F0 V1 V2 := by rw [hV2]; exact (KB.refl _ _).alloc _
  obtain ⟨V3, hV3⟩ : ∃ V, V = V2.alloc (.cells #[.int .i64 3] 3) := ⟨_, rfl⟩
  have s3 : V3.heap.size = w0.heap.size + 1 + 1 + 1 := by rw [hV3]; simp [s2]
  have e3 : KB F0 V2 V3 := by rw [hV3]; exact (KB.refl _ _).alloc _
  obtain ⟨V4, hV4⟩ : ∃ V, V = V3.alloc (.cells #[.int .i64 4] 3) := ⟨_, rfl⟩
  have s4 : V4.heap.size = w0.heap.size + 1 + 1 + 1 + 1 := by rw [hV4]; simp [s3]
  have e4 : KB F0 V3 V4 := by rw [hV4]; exact (KB.refl _ _).alloc _
  obtain ⟨V5, hV5⟩ : ∃ V, V = V4.alloc (.cells #[.int .u8 29, .int .i64 0, .int .i64 0, .string ⟨#[]⟩, .slice (some ⟨w0.heap.size, 0, none⟩) 1 1, .int .u8 29, .int .i64 0, .int .i64 1, .string ⟨#[]⟩, .slice (some ⟨w0.heap.size + 1, 0, none⟩) 1 1, .int .u8 27, .int .i64 0, .int .i64 0, .string ⟨#[102]⟩, .slice (some ⟨w0.heap.size + 1 + 1, 0, none⟩) 1 1, .int .u8 28, .int .i64 0, .int .i64 0, .string ⟨#[]⟩, .slice (some ⟨w0.heap.size + 1 + 1 + 1, 0, none⟩) 1 1, .int .u8 26, .int .i64 0, .int .i64 0, .string ⟨#[120]⟩, .slice none 0 0] 44) := ⟨_, rfl⟩
  have s5 : V5.heap.size = w0.heap.size + 1 + 1 + 1 + 1 + 1 := by rw [hV5]; simp [s4]
  have e5 : KB F0 V4 V5 := by rw [hV5]; exact (KB.refl _ _).alloc _
  obtain ⟨V6, hV6⟩ : ∃ V, V = V5.alloc (.cells #[.slice (some ⟨w0.heap.size + 1 + 1 + 1 + 1, 0, none⟩) 5 5] 24) := ⟨_, rfl⟩
  have s6 : V6.heap.size = w0.heap.size + 1 + 1 + 1 + 1 + 1 + 1 := by rw [hV6]; simp [s5]
  have e6 : KB F0 V5 V6 := by rw [hV6]; exact (KB.refl _ _).alloc _
  have g1 : V6.heap[w0.heap.size]? = some (.cells #[.int .i64 1] 3 (0, 0)) := ((((e2.trans e3).trans e4).trans e5).trans e6).heap (fun x => x) (by
    have := alloc_new w0 (.cells #[.int .i64 1] 3)
    rw [← hV1] at this
    exact this)
  have g2 : V6.heap[w0.heap.size + 1]? = some (.cells #[.int .i64 2] 3 (0, 0)) := (((e3.trans e4).trans e5).trans e6).heap (fun x => x) (by
    have := alloc_new V1 (.cells #[.int .i64 2] 3)
    rw [s1, ← hV2] at this
    exact this)
  have g3 : V6.heap[w0.heap.size + 1 + 1]? = some (.cells #[.int .i64 3] 3 (0, 0)) := ((e4.trans e5).trans e6).heap (fun x => x) (by
    have := alloc_new V2 (.cells #[.int .i64 3] 3)
    rw [s2, ← hV3] at this
    exact this)
  have g4 : V6.heap[w0.heap.size + 1 + 1 + 1]? = some (.cells #[.int .i64 4] 3 (0, 0)) := (e5.trans e6).heap (fun x => x) (by
    have := alloc_new V3 (.cells #[.int .i64 4] 3)
    rw [s3, ← hV4] at this
    exact this)
  have g5 : V6.heap[w0.heap.size + 1 + 1 + 1 + 1]? = some (.cells #[.int .u8 29, .int .i64 0, .int .i64 0, .string ⟨#[]⟩, .slice (some ⟨w0.heap.size, 0, none⟩) 1 1, .int .u8 29, .int .i64 0, .int .i64 1, .string ⟨#[]⟩, .slice (some ⟨w0.heap.size + 1, 0, none⟩) 1 1, .int .u8 27, .int .i64 0, .int .i64 0, .string ⟨#[102]⟩, .slice (some ⟨w0.heap.size + 1 + 1, 0, none⟩) 1 1, .int .u8 28, .int .i64 0, .int .i64 0, .string ⟨#[]⟩, .slice (some ⟨w0.heap.size + 1 + 1 + 1, 0, none⟩) 1 1, .int .u8 26, .int .i64 0, .int .i64 0, .string ⟨#[120]⟩, .slice none 0 0] 44 (0, 0)) := e6.heap (fun x => x) (by
    have := alloc_new V4 (.cells #[.int .u8 29, .int .i64 0, .int .i64 0, .string ⟨#[]⟩, .slice (some ⟨w0.heap.size, 0, none⟩) 1 1, .int .u8 29, .int .i64 0, .int .i64 1, .string ⟨#[]⟩, .slice (some ⟨w0.heap.size + 1, 0, none⟩) 1 1, .int .u8 27, .int .i64 0, .int .i64 0, .string ⟨#[102]⟩, .slice (some ⟨w0.heap.size + 1 + 1, 0, none⟩) 1 1, .int .u8 28, .int .i64 0, .int .i64 0, .string ⟨#[]⟩, .slice (some ⟨w0.heap.size + 1 + 1 + 1, 0, none⟩) 1 1, .int .u8 26, .int .i64 0, .int .i64 0, .string ⟨#[120]⟩, .slice none 0 0] 44)
    rw [s4, ← hV5] at this
    exact this)
  have g6 : V6.heap[w0.heap.size + 1 + 1 + 1 + 1 + 1]? = some (.cells #[.slice (some ⟨w0.heap.size + 1 + 1 + 1 + 1, 0, none⟩) 5 5] 24 (0, 0)) := by
    have := alloc_new V5 (.cells #[.slice (some ⟨w0.heap.size + 1 + 1 + 1 + 1, 0, none⟩) 5 5] 24)
    rw [s5, ← hV6] at this
    exact this
  have kV : KB F0 w0 V6 := ((((e1.trans e2).trans e3).trans e4).trans e5).trans e6
  have hnd : NodesAt V6 (some ⟨w0.heap.size + 1 + 1 + 1 + 1, 0, none⟩) aw5 := aw5_at g1 g2 g3 g4 g5
  have HV := Lib.hid (And.intro kV (And.intro hnd g6))
  have HE := Lib.hid (And.intro hV1 (And.intro hV2 (And.intro hV3 (And.intro hV4 (And.intro hV5 hV6)))))
  clear hV1 hV2 hV3 hV4 hV5 hV6 s1 s2 s3 s4 s5 s6 e1 e2 e3 e4 e5 e6 g1 g2 g3 g4 g5 g6 kV hnd
  clear HT
  go_enter Tryz.func9, Tryz.ntmps9
  go_wp2_with fail
  rw [← HE.out.1, ← HE.out.2.1, ← HE.out.2.2.1, ← HE.out.2.2.2.1, ← HE.out.2.2.2.2.1, ← HE.out.2.2.2.2.2]
  refine (CE.out _ _ _ HV.out.1 HV.out.2.1).mono ?_
  rintro e w1 ⟨rfl, k1⟩
  have c0 : w1.cell? ⟨w0.heap.size + 1 + 1 + 1 + 1 + 1, 0, none⟩ = some (.slice (some ⟨w0.heap.size + 1 + 1 + 1 + 1, 0, none⟩) 5 5) := blk_cell (k1.heap (fun x => x) HV.out.2.2) 0
  have K1 := Lib.hid k1
  clear k1
  go_wp2_with fail
  refine (CL.out _ _ _ (HV.out.1.trans K1.out) (HV.out.2.1.kbF K1.out)).mono ?_
  rintro e w2 ⟨rfl, k2⟩
  have c0 := k2.cell (p := ⟨w0.heap.size + 1 + 1 + 1 + 1 + 1, 0, none⟩) (fun x => x) c0
  have K2 := Lib.hid (K1.out.trans k2)
  clear k2
  go_wp2_with fail
  refine (one5_any 8 w2).mono ?_
  rintro e w3 ⟨g3, rfl, hn3, k3⟩
  have c0 := k3.cell (p := ⟨w0.heap.size + 1 + 1 + 1 + 1 + 1, 0, none⟩) (fun x => x) c0
  have K3 := Lib.hid (And.intro (K2.out.trans k3) hn3)
  clear k3 hn3
  go_wp2_with fail
  refine (CT.out _ _ _ (HV.out.1.trans K3.out.1) K3.out.2).mono ?_
  rintro e w4 ⟨rfl, k4⟩
  have c0 := k4.cell (p := ⟨w0.heap.size + 1 + 1 + 1 + 1 + 1, 0, none⟩) (fun x => x) c0
  have K4 := Lib.hid (K3.out.1.trans k4)
  clear k4
  go_wp2_with fail
  refine (one5_any 13 w4).mono ?_
  rintro e w5 ⟨g5, rfl, hn5, k5⟩
  have c0 := k5.cell (p := ⟨w0.heap.size + 1 + 1 + 1 + 1 + 1, 0, none⟩) (fun x => x) c0
  have K5 := Lib.hid (And.intro (K4.out.trans k5) hn5)
  clear k5 hn5
  go_wp2_with fail
  refine (CN.out _ _ _ (HV.out.1.trans K5.out.1) K5.out.2).mono ?_
  rintro e w6 ⟨g6, c6, rfl, hc6, k6⟩
  have c0 := k6.cell (p := ⟨w0.heap.size + 1 + 1 + 1 + 1 + 1, 0, none⟩) (fun x => x) c0
  have K6 := Lib.hid (K5.out.1.trans k6)
  clear k6
  go_wp2_with fail
  refine (CF.out _ _ _ (HV.out.1.trans K6.out) (HV.out.2.1.kbF K6.out)).mono ?_
  rintro e w7 ⟨s7, rfl, k7⟩
  have hc6 := k7.cell (p := ⟨g6, 0, none⟩) (fun x => x) hc6
  have K7 := Lib.hid (HV.out.1.trans (K6.out.trans k7))
  clear k7 c0
  go_wp2_with fail
  go_ret
  exact ⟨rfl, K7.out⟩
end Go.Proofs.YtoophdcagpfmpaaGreatDoor

namespace Go.Proofs.YtoophdcagpfmpaaGreatDoor
open Go.RowKit

/-- A node whose list is so far made. -/
def ndObj (x : Nd) (lv : Value) : Obj := .cells #[.int .u8 (x.k : Nat), .int .i64 x.at_, .int .i64 x.n, .string x.s, lv] 44
/-- A store into a block of another type leaves a tree's memory as it is. -/
theorem OwnTs.other {w w' : World} {B O : Nat} {v : Value} {ts : List Nd} {ls : List Value} {cs : Array Value} {t : TypeId} (h : OwnTs w B v ts ls) (hk : KB (fun k => k = O) w w') (hO : w.heap[O]? = some (.cells cs t (0, 0))) (h1 : t ≠ 44) (h2 : t ≠ 3) : OwnTs w' B v ts ls := by
  have hne : ∀ {u : Value} {e : TypeId} {z n : Nat} {xs : List Value}, w.ownsRow B e z u n xs → e ≠ t → w'.ownsRow B e z u n xs := fun hu he => own_kb hu hk (fun g e1 e2 => by
    obtain ⟨c1, h1, hb⟩ := own_block hu e1
    subst e2
    rw [hO] at h1
    simp only [Option.some.injEq, Obj.cells.injEq] at h1
    exact he h1.2.1.symm)
  exact ⟨h.len, hne h.row (fun e => h1 e.symm), fun k hk => hne (h.lists k hk) (fun e => h2 e.symm)⟩
theorem OwnTs.keep {w w' : World} {B X : Nat} {v : Value} {ts : List Nd} {ls : List Value} (h : OwnTs w B v ts ls) (hk : KB (fun k => X ≤ k) w w') (hX : w.heap.size ≤ X) : OwnTs w' B v ts ls :=
  h.kb hk (fun g _ h2 e => by omega)
theorem KB.up {X : Nat} {a b c : World} (h : KB F0 a b) (k : KB (fun i => X ≤ i) b c) (hX : a.heap.size ≤ X) : KB F0 a c := h.above k (fun _i hi => Nat.le_trans hX hi)
theorem ints_one {l : List Int} : ∀ u ∈ ints l, u.oneCell' = true := fun u hu => by
  obtain ⟨x, -, rfl⟩ := List.mem_map.1 hu
  rfl
/-- A result that lies in a cell. -/
theorem ret_cell {fn : Func} {R : Ending → World → Prop} {a : Act} {w : World} {p X : Nat} {v : Value} (h : fn.results = #[.cell p 24]) (hp : a.tmps.getD p undef = .pointer (some ⟨X, 0, none⟩))
    (hc : w.cell? ⟨X, 0, none⟩ = some v) (hd : a.defers = []) (hR : R (.returned (.agg #[v])) w) : bodyPost Tryz.prog fn R .ret a w := by
  refine bodyPost_ret (v := .agg #[v]) ?_ hd hR
  have hp' : a.tmps[p]?.getD undef = .pointer (some ⟨X, 0, none⟩) := by simpa using hp
  simp only [results, h]
  go_simp
theorem run_append_owned_none2 {P : Program} {w : World} (base : Nat) (t ty e : TypeId) (i : TypeInfo) (size : Nat) (ht : P.underlying t = some (.slice e)) (hi : P.info? e = some i)
    (v : Value) (n : Nat) (xs : List Value) (c : Nat) (hown : w.ownsRow base e size v n xs) : (Builtin.append_ #[t, t] ty #[v, .slice none 0 c]).run P w = .ok v w := by
  rcases hown.2 with ⟨rfl, rfl⟩ | ⟨g, cap, cur, rfl, -, -, hnc, -⟩
  · simp [Builtin.append_, run_underlying ht, sizeOf, typeInfo, hi, Builtin.lenOf, Builtin.firstCells]
  · simp [Builtin.append_, run_underlying ht, sizeOf, typeInfo, hi, Builtin.lenOf, Builtin.firstCells, hnc, storeCells]
/-- A list copied: 'append([]int(nil), l...)'. -/
theorem wpList_append_copy {P : Program} {ops : Array Oper} {rest : List Oper} {o : Oper} {a : Act} {Q : Exit → Act → World → Prop} {w : World} (t e : TypeId) (base : Nat) {bytes : Nat}
    (hinfo : (P.info? e).map (fun i => (i.zero, i.size, i.bytes)) = some (some (.int .i64 0), 1, bytes)) (ht : P.underlying t = some (.slice e)) {s x : Operand} {la : Option Addr} {M lc : Nat} (hgd : o.guard = none)
    (ho : o.op = .call { callee := .builtin .append, args := #[s, x], argTypes := #[t, t] }) (hs : a.eval s = .slice none 0 0) (hx : a.eval x = .slice la M lc) (l : List Int) (hM : M = l.length) (hl : IntsAt w la l) (hb : M ≤ 20000) (hbase : base ≤ w.heap.size)
    (h : ∀ lv w', w'.ownsRow base e 1 lv M (ints l) → KB F0 w w' → wpList P ops Q rest (a.put o.dst lv) w') (hby : bytes ≤ 8 := by decide) : wpList P ops Q (o :: rest) a w := by
  obtain ⟨i, hi, hz0, hz1, hz2⟩ := info_parts hinfo
  have hnil : w.ownsRow base e 1 (.slice none 0 0) 0 [] := World.ownsRow_nil _ _ _ _
  by_cases h0 : M = 0
  · subst h0
    have e1 : l = [] := List.eq_nil_of_length_eq_zero hM.symm
    subst e1
    cases la with
    | none =>
      refine wpList_plain hgd fun K hK => ?_
      have hrun := run_append_owned_none2 (P := P) (w := w) base t o.type e i 1 ht hi _ 0 [] lc hnil
      unfold Oper.wp
      simp [execOp, ho, resolve, invoke, builtin, hs, hx, hrun, Result.andThen]
      exact hK _ _ (h _ _ hnil (KB.refl _ _))
    | some p =>
      refine wpList_append_own w hgd s x t ho base e i _ 1 bytes ht hi hz0 hz1 hz2 rfl (by decide) _ 0 [] hs hnil p 0 lc [] hx rfl (fun j u hj => by simp at hj) (fun u hu => by cases hu) (by unfold maxLen; omega) (by simp) hbase ?_
      intro v' w' h1 h2 _
      exact h v' w' h1 (KB.of_grown h2 (fun k e => by cases e))
  · obtain ⟨b, off, rfl, -⟩ := hl 0 (by omega)
    refine wpList_append_own w hgd s x t ho base e i _ 1 bytes ht hi hz0 hz1 hz2 rfl (by decide) _ 0 [] hs hnil ⟨b, off, none⟩ M lc (ints l) hx (by rw [ints_len]; omega) (fun j u hj => ?_) ints_one (by unfold maxLen; omega) (by have : M * bytes ≤ 20000 * 8 := Nat.mul_le_mul hb hby; rw [Nat.zero_add]; omega) hbase ?_
    · have hjl : j < l.length := by
        have := (List.getElem?_eq_some_iff.1 hj).1
        rwa [ints_len] at this
      obtain ⟨b', off', e, hc⟩ := hl j hjl
      simp only [Option.some.injEq, Addr.mk.injEq, and_true] at e
      obtain ⟨rfl, rfl⟩ := e
      rw [ints_get hjl] at hj
      obtain rfl := Option.some.inj hj
      rw [show ((⟨b, off, none⟩ : Addr).add j) = ⟨b, off + j, none⟩ by unfold Addr.add; split <;> simp_all]
      exact hc
    · intro v' w' h1 h2 _
      rw [Nat.zero_add, List.nil_append] at h1
      exact h v' w' h1 (KB.of_grown h2 (fun k e => by cases e))
set_option maxRecDepth 100000 in
set_option maxHeartbeats 8000000 in
theorem cown_any (ts : List Nd) (hlen : ts.length ≤ 100000) (hlens : ∀ x ∈ ts, x.l.length ≤ 20000) (a : Option Addr) (cap : Nat) (w : World) (hts : NodesAt w a ts) :
    Calls Tryz.prog 10 #[.agg #[.slice a ts.length cap]] w fun e w' => ∃ v ls, e = .returned (.agg #[v]) ∧ OwnTs w' w.heap.size v ts ls ∧ KB F0 w w' := by
  obtain ⟨w0, rfl⟩ : ∃ w0, w0 = w := ⟨_, rfl⟩
  obtain ⟨N, hN⟩ : ∃ N, N = ts.length := ⟨_, rfl⟩
  have HTS := Lib.hid (And.intro hts hlens)
  rw [← hN] at hlen ⊢
  have HN := Lib.hid hN
  have hs0 : (w0.alloc (.cells #[.slice a N cap] 24)).heap.size = w0.heap.size + 1 := by simp
  have hs1 : ((w0.alloc (.cells #[.slice a N cap] 24)).alloc (.cells #[.slice none 0 0] 24)).heap.size = w0.heap.size + 1 + 1 := by simp
  obtain ⟨W1, hW1⟩ : ∃ W1, W1 = (((w0.alloc (.cells #[.slice a N cap] 24)).alloc (.cells #[.slice none 0 0] 24)).alloc (.cells #[.slice none 0 0] 24)) := ⟨_, rfl⟩
  have k1 : KB F0 w0 W1 := by rw [hW1]; exact (((KB.refl _ _).alloc _).alloc _).alloc _
  have h0h : W1.heap[w0.heap.size]? = some (.cells #[.slice a N cap] 24 (0, 0)) := by
    rw [hW1]; exact (((KB.refl F0 _).alloc _).alloc _).heap (fun x => x) (alloc_new _ _)
  have h1h : W1.heap[w0.heap.size + 1]? = some (.cells #[.slice none 0 0] 24 (0, 0)) := by
    rw [hW1, ← hs0]; exact ((KB.refl F0 _).alloc _).heap (fun x => x) (alloc_new _ _)
  have h2h : W1.heap[w0.heap.size + 1 + 1]? = some (.cells #[.slice none 0 0] 24 (0, 0)) := by
    rw [hW1, ← hs1]; exact alloc_new _ _
  have H1 := Lib.hid (And.intro k1 (And.intro h0h (And.intro h1h h2h)))
  have HW1 := Lib.hid hW1
  clear hts hlens hN k1 h0h h1h h2h hs0 hs1 hW1
  go_enter Tryz.func10, Tryz.ntmps10
  go_wp2_with fail
  rw [← HW1.out]
  go_loopw [4] (fun iv wr => ∃ (i : Nat) (v : Value) (ls : List Value), i ≤ N ∧ iv = .int .i64 i ∧ OwnTs wr w0.heap.size v (ts.take i) ls ∧ wr.heap[w0.heap.size + 1 + 1]? = some (.cells #[v] 24 (0, 0)) ∧
    wr.heap[w0.heap.size]? = some (.cells #[.slice a N cap] 24 (0, 0)) ∧ wr.heap[w0.heap.size + 1]? = some (.cells #[.slice none 0 0] 24 (0, 0)) ∧ KB F0 w0 wr) (fun iv _ => N - (intOf iv).toNat)
  case atStart => exact ⟨0, _, [], by omega, rfl, ownTs_nil _ _, H1.out.2.2.2, H1.out.2.1, H1.out.2.2.1, H1.out.1⟩
  case round =>
    obtain ⟨i, v, ls, hi1, rfl, hown, hO, hA, hB, hkb⟩ := hrel
    have b0 : wr.cell? ⟨w0.heap.size, 0, none⟩ = some (.slice a N cap) := blk_cell hA 0
    by_cases hlt : i < N
    · obtain ⟨b, off, rfl, hnd0⟩ := HTS.out.1 i (by rw [← HN.out]; exact hlt)
      have hxl := HTS.out.2 _ (getD_memN (ts := ts) (k := i) (by rw [← HN.out]; exact hlt))
      have htk : Hid (ts.take (i + 1) = ts.take i ++ [ts.getD i nd0]) := Lib.hid (take_getD (by rw [← HN.out]; exact hlt))
      have hdl : (ts.take i).length = i := by rw [List.length_take, ← HN.out, Nat.min_eq_left hi1]
      generalize ts.getD i nd0 = x at hnd0 hxl htk
      obtain ⟨done, hdone⟩ : ∃ done, done = ts.take i := ⟨_, rfl⟩
      rw [← hdone] at hown htk hdl
      clear hdone
      have hnd := hnd0.kbF hkb
      have c0 := hnd.k
      have c1 := hnd.at_
      have c2 := hnd.n
      have c3 := hnd.s
      obtain ⟨la, lc, hl4, hints, hlc, hlm⟩ := hnd.l
      obtain ⟨M, hM⟩ : ∃ M, M = x.l.length := ⟨_, rfl⟩
      rw [← hM] at hl4 hlc hxl
      have HM := Lib.hid hM
      unfold maxLen at hlm
      have HK := Lib.hid (And.intro hown (And.intro hO (And.intro hA (And.intro hB (And.intro hkb hints)))))
      have hiN : (i : Int) < (N : Int) := by omega
      clear hown hO hA hB hkb hnd hnd0 hints hM
      have kV : KB F0 wr (wr.alloc (.cells #[.int .u8 (x.k : Nat), .int .i64 x.at_, .int .i64 x.n, .string x.s, .slice none 0 0] 44)) := (KB.refl _ _).alloc _
      have hX := alloc_new wr (.cells #[.int .u8 (x.k : Nat), .int .i64 x.at_, .int .i64 x.n, .string x.s, .slice none 0 0] 44)
      have b0v := kV.cell (p := ⟨w0.heap.size, 0, none⟩) (fun x => x) b0
      have l4v := kV.cell (p := ⟨b, off + i * 5 + 4, none⟩) (fun x => x) hl4
      have HV := Lib.hid (And.intro kV hX)
      go_wp2_with fail
      obtain ⟨V, hV⟩ : ∃ V, V = wr.alloc (.cells #[.int .u8 (x.k : Nat), .int .i64 x.at_, .int .i64 x.n, .string x.s, .slice none 0 0] 44) := ⟨_, rfl⟩
      have hVs : V.heap.size = wr.heap.size + 1 := by rw [hV]; simp
      rw [← hV] at HV b0v l4v ⊢
      obtain ⟨X, hXe⟩ : ∃ X, X = wr.heap.size := ⟨_, rfl⟩
      rw [← hXe] at HV hVs ⊢
      have hOX : w0.heap.size + 1 + 1 < X := by rw [hXe]; exact heap_lt HK.out.2.1
      have x4 : V.cell? ⟨X, 4, none⟩ = some (.slice none 0 0) := blk_cell HV.out.2 4
      have HXe := Lib.hid hXe
      clear hV hX kV b0 hl4 c0 c1 c2 c3 hXe
      refine wp_region_rv 8 GQ (kindV []) (by kernel_rfl) (by kernel_rfl) GQ.trans GQ.refl (GQ.start _) (kindV_mono _) ?_
      simp only [List.take_succ_cons, List.take_zero, List.drop_succ_cons, List.drop_zero]
      iterate 8 (refine rv_det (by kernel_rfl) rfl (by intro w hG hH; obtain ⟨n, rfl⟩ := hG; go_simp; first | done | with_reducible rfl) ?_; simp only [Act.put, List.setIfInBounds_toArray, List.set_cons_zero, List.set_cons_succ])
      refine rv_nil (fun w hG hH => ?_)
      obtain ⟨n, rfl⟩ := hG
      clear hH
      have HW := Lib.hid (And.intro (HV.out.1.drewN n) (show (V.drewN n).heap[X]? = _ from HV.out.2))
      have hVn : (V.drewN n).heap.size = X + 1 := hVs
      obtain ⟨U, hU⟩ : ∃ U, U = V.drewN n := ⟨_, rfl⟩
      rw [← hU] at HW hVn ⊢
      clear hU b0v l4v x4 HV hVs
      have hnil : U.ownsRow (X + 1) 3 1 (.slice none 0 0) 0 [] := World.ownsRow_nil _ _ _ _
      go_wp2_with (at_builtin; refine Stopped.out ?_)
      refine ⟨?_⟩
      -- the copy of the list
      refine wpList_append_copy 42 3 (X + 1) Tryz.infoInt Tryz.underlying42 rfl rfl rfl rfl x.l (by rw [HM.out]) (HK.out.2.2.2.2.2.kbF HW.out.1) hxl (by omega) ?_
      intro lv w' hlv hkc
      have hXw := hkc.heap (fun x => x) HW.out.2
      obtain ⟨lva, lvc, rfl, -⟩ := own_shape hlv
      have y4 : w'.cell? ⟨X, 4, none⟩ = some (.slice none 0 0) := blk_cell hXw 4
      have y4f := blk_frozen hXw 4
      have ks := kb_set w' X 4 (.slice lva M lvc)
      have hX2 := setCell_blk (i := 4) hXw (.slice lva M lvc)
      have kAll : KB (fun k => X ≤ k) wr (w'.setCell ⟨X, 4, none⟩ (.slice lva M lvc)) := ((HW.out.1.trans hkc).mono (fun _ _ x => x.elim)).trans (ks.mono (fun k _ e => by rw [e]; exact Nat.le_refl _))
      have hlv2 := own_kb hlv ks (fun g e1 e2 => by
        obtain ⟨cu, h1, h2⟩ := own_block hlv e1
        omega)
      have kO := HK.out.2.2.2.2.1.up kAll (by rw [HXe.out]; exact HK.out.2.2.2.2.1.size)
      have hown4 := HK.out.1.keep kAll (by rw [HXe.out]; exact Nat.le_refl _)
      have hOh := kAll.heap (b := w0.heap.size + 1 + 1) (fun (h : X ≤ w0.heap.size + 1 + 1) => by omega) HK.out.2.1
      have hAh := kAll.heap (b := w0.heap.size) (fun (h : X ≤ w0.heap.size) => by omega) HK.out.2.2.1
      have hBh := kAll.heap (b := w0.heap.size + 1) (fun (h : X ≤ w0.heap.size + 1) => by omega) HK.out.2.2.2.1
      have hlvx := own_base (B' := w0.heap.size) hlv2 (by omega)
      have HQ := Lib.hid (And.intro hown4 (And.intro hOh (And.intro hAh (And.intro hBh (And.intro kO (And.intro hlvx hX2))))))
      clear hlv hkc hXw ks hX2 kAll hlv2 kO hown4 hOh hAh hBh hlvx hnil
      obtain ⟨W9, hW9⟩ : ∃ W9, W9 = w'.setCell ⟨X, 4, none⟩ (.slice lva M lvc) := ⟨_, rfl⟩
      rw [← hW9] at HQ
      have x0 : W9.cell? ⟨X, 0, none⟩ = some (.int .u8 (x.k : Nat)) := blk_cell HQ.out.2.2.2.2.2.2 0
      have x1 : W9.cell? ⟨X, 1, none⟩ = some (.int .i64 x.at_) := blk_cell HQ.out.2.2.2.2.2.2 1
      have x2 : W9.cell? ⟨X, 2, none⟩ = some (.int .i64 x.n) := blk_cell HQ.out.2.2.2.2.2.2 2
      have x3 : W9.cell? ⟨X, 3, none⟩ = some (.string x.s) := blk_cell HQ.out.2.2.2.2.2.2 3
      have x4 : W9.cell? ⟨X, 4, none⟩ = some (.slice lva M lvc) := blk_cell HQ.out.2.2.2.2.2.2 4
      have c0O : W9.cell? ⟨w0.heap.size + 1 + 1, 0, none⟩ = some v := blk_cell HQ.out.2.1 0
      have hws := HQ.out.2.2.2.2.1.size
      have HW9 := Lib.hid hW9
      rw [hW9] at x0 x1 x2 x3 x4 c0O hws
      clear hW9
      go_wp2_with (at_builtin; refine Stopped.out ?_)
      refine ⟨?_⟩
      rw [← HW9.out]
      rw [← HW9.out] at hws
      have ka : KB F0 W9 (W9.alloc (.cells #[.int .u8 (x.k : Nat), .int .i64 x.at_, .int .i64 x.n, .string x.s, .slice lva M lvc] 44)) := (KB.refl _ _).alloc _
      have hxlen : x.l.length = M := HM.out.symm
      have HO := Lib.hid (And.intro (HQ.out.1.kbF ka) (own_kb HQ.out.2.2.2.2.2.1 ka (fun _ _ x => x)))
      have hsV : (w'.setCell ⟨X, 4, none⟩ (.slice lva M lvc)).heap.size = W9.heap.size := by rw [HW9.out]
      refine appRow 22 44 w0.heap.size (ndCells x (.slice lva M lvc)) Tryz.infoNode Tryz.underlying22 rfl (by decide) HO.out.1.row rfl rfl rfl rfl (by first | exact alloc_new _ _ | (rw [← hsV]; exact alloc_new _ _) | (have e9 := alloc_new W9 (.cells (ndCells x (.slice lva M lvc)).toArray 44); rw [← hsV] at e9; simpa [World.setCell, ndCells] using e9)) rfl
        (by intro u hu; simp [ndCells] at hu; rcases hu with rfl | rfl | rfl | rfl | rfl <;> rfl) (by unfold maxLen; omega) (by omega) (by simp; omega) ?_
      intro v' w2 hown' hgr
      have hpush := HO.out.1.push (x := x) (by rw [hxlen]; exact HO.out.2) hown' hgr
      have hk' := (HQ.out.2.2.2.2.1.trans ka).grown hgr (fun g e h => by
        obtain ⟨-, -, hb⟩ := own_block HO.out.1.row e
        omega)
      have hgo : ∀ {g : Nat} {cs : Array Value}, W9.heap[g]? = some (.cells cs 24 (0, 0)) → w2.heap[g]? = some (.cells cs 24 (0, 0)) := fun {g cs} hg => by
        have hg2 := ka.heap (fun x => x) hg
        rw [hgr.block g (heap_lt hg2) (fun e => by
          obtain ⟨cu, h1, -⟩ := own_block HO.out.1.row e.symm
          rw [hg2] at h1; cases h1)]
        exact hg2
      have hO7 := hgo HQ.out.2.1
      have hA7 := hgo HQ.out.2.2.1
      have hB7 := hgo HQ.out.2.2.2.1
      rw [← htk.out] at hpush
      obtain ⟨a7, c7, rfl, -⟩ := own_shape hown'
      have k8 := kb_set w2 (w0.heap.size + 1 + 1) 0 (.slice a7 (done.length + 1) c7)
      have hown9 := hpush.other k8 hO7 (by decide) (by decide)
      have hO8 := setCell_blk (i := 0) hO7 (.slice a7 (done.length + 1) c7)
      have hA8 := k8.heap (b := w0.heap.size) (fun e => by omega) hA7
      have hB8 := k8.heap (b := w0.heap.size + 1) (fun e => by omega) hB7
      have hkb8 := hk'.setCell (p := ⟨w0.heap.size + 1 + 1, 0, none⟩) (fun h => by
        have h1 : w0.heap.size + 1 + 1 < w0.heap.size := h; omega) (.slice a7 (done.length + 1) c7)
      have c7O : w2.cell? ⟨w0.heap.size + 1 + 1, 0, none⟩ = some v := blk_cell hO7 0
      have f7O := blk_frozen hO7 0
      have HP := Lib.hid (And.intro hown9 (And.intro hO8 (And.intro hA8 (And.intro hB8 hkb8))))
      clear hpush hk' hown' hgr HO ka x0 x1 x2 x3 x4 c0O hO7 hA7 hB7 k8 hown9 hO8 hA8 hB8 hkb8 hgo hsV y4 y4f
      go_wp2
      go_roundw
      case rel =>
        have H9 := HP.out
        rw [hdl] at H9
        exact ⟨i + 1, _, _, by omega, by go_num, H9.1, H9.2.1, H9.2.2.1, H9.2.2.2.1, H9.2.2.2.2⟩
      case measure => simp [intOf]; omega
    · obtain rfl : i = N := by omega
      have hts : ts.take i = ts := List.take_of_length_le (by rw [← HN.out]; exact Nat.le_refl _)
      rw [hts] at hown
      obtain ⟨va, vc, rfl, -⟩ := hown.nodes
      have c0O : wr.cell? ⟨w0.heap.size + 1 + 1, 0, none⟩ = some (.slice va ts.length vc) := blk_cell hO 0
      have b1 : wr.cell? ⟨w0.heap.size + 1, 0, none⟩ = some (.slice none 0 0) := blk_cell hB 0
      have hfz := blk_frozen hB 0
      have Hc1 := Lib.hid (World.cell?_setCell_same wr ⟨w0.heap.size + 1, 0, none⟩ (.slice va ts.length vc) b1)
      have HF := Lib.hid (And.intro (hown.other (kb_set wr (w0.heap.size + 1) 0 (.slice va ts.length vc)) hB (by decide) (by decide)) (hkb.setCell (p := ⟨w0.heap.size + 1, 0, none⟩) (fun h => by
        have h1 : w0.heap.size + 1 < w0.heap.size := h; omega) (.slice va ts.length vc)))
      clear hown hO hB hkb hA
      go_wp2
      (try simp only [Exit.inBlock, Exit.then])
      refine ret_cell rfl rfl Hc1.out rfl ?_
      exact ⟨_, ls, rfl, HF.out.1, HF.out.2⟩
end Go.Proofs.YtoophdcagpfmpaaGreatDoor

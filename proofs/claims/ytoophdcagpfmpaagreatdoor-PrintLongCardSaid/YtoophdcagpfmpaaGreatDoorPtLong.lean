/- loanwordlaw05.PrintLong: the walk. -/
import Derived.Test.YtoophdcagpfmpaaGreatDoorMg46
import Derived.Test.YtoophdcagpfmpaaGreatDoorPtAw
import Derived.Deep.DeepCutAuto
namespace Go.Proofs.YtoophdcagpfmpaaGreatDoor
open Go.RowKit

theorem lgRoot_succ (j : Nat) : ({ lgRoot j with l := (lgRoot j).l ++ [((2 * j + 1 : Nat) : Int)] } : Nd) = lgRoot (j + 1) := rfl
/-- Two nodes, as an own tree. -/
theorem own_pair {w : World} {B nb ib : Nat} {x y : Nd} {c : Int} (hx : x.l = [c]) (hy : y.l = []) (hn : w.heap[nb]? = some (.cells #[.int .u8 (x.k : Nat), .int .i64 x.at_, .int .i64 x.n, .string x.s, .slice (some ⟨ib, 0, none⟩) 1 1, .int .u8 (y.k : Nat), .int .i64 y.at_, .int .i64 y.n, .string y.s, .slice none 0 0] 44 (0, 0)))
    (hi : w.heap[ib]? = some (.cells #[.int .i64 c] 3 (0, 0))) (h1 : B ≤ nb) (h2 : B ≤ ib) : OwnTs w B (.slice (some ⟨nb, 0, none⟩) 2 2) [x, y] [.slice (some ⟨ib, 0, none⟩) 1 1, .slice none 0 0] := by
  refine ⟨rfl, ⟨rfl, Or.inr ⟨nb, 2, _, rfl, h1, hn, Nat.le_refl _, by decide, rfl, rfl⟩⟩, fun k hk => ?_⟩
  obtain rfl | rfl : k = 0 ∨ k = 1 := by simp at hk; omega
  · show w.ownsRow B 3 1 (.slice (some ⟨ib, 0, none⟩) 1 1) x.l.length (ints x.l)
    rw [hx]
    exact ⟨rfl, Or.inr ⟨ib, 1, _, rfl, h2, hi, Nat.le_refl _, by decide, rfl, rfl⟩⟩
  · show w.ownsRow B 3 1 (.slice none 0 0) y.l.length (ints y.l)
    rw [hy]
    exact World.ownsRow_nil _ _ _ _

set_option maxRecDepth 100000 in
set_option maxHeartbeats 16000000 in
theorem printLong_any (n k m : Int) (hn : -9223372036854775808 ≤ n ∧ n ≤ 9223372036854775807) (hk : -9223372036854775808 ≤ k ∧ k ≤ 9223372036854775807) (hm : -9223372036854775808 ≤ m ∧ m ≤ 9223372036854775807) (w : World) (hT : PT w) :
    Calls Tryz.prog 4 #[.int .i64 n, .int .i64 k, .int .i64 m] w fun e w' => e = .returned (.bool true) ∧ KB F0 w w' := by
  obtain ⟨w0, rfl⟩ : ∃ w0, w0 = w := ⟨_, rfl⟩
  have HH := Lib.hid hT
  have ON := Lib.hid (one5_own 13 w0)
  clear hT
  obtain ⟨N, hN⟩ : ∃ N : Nat, max 0 (min n 8000) = (N : Int) := ⟨(max 0 (min n 8000)).toNat, by omega⟩
  obtain ⟨K, hK⟩ : ∃ K : Nat, max 1 (min k 18) = (K : Int) := ⟨(max 1 (min k 18)).toNat, by omega⟩
  obtain ⟨M, hM⟩ : ∃ M : Nat, max 1 (min m 18) = (M : Int) := ⟨(max 1 (min m 18)).toNat, by omega⟩
  have bN : N ≤ 8000 := by omega
  have bK : 1 ≤ K ∧ K ≤ 18 := by omega
  have bM : 1 ≤ M ∧ M ≤ 18 := by omega
  clear hn hk hm
  go_enter Tryz.func4, Tryz.ntmps4
  go_wp2_with fail
  refine ON.out.mono ?_
  rintro e w1 ⟨g, rfl, hown, k1⟩
  have HO := Lib.hid (And.intro hown k1)
  clear hown k1 ON
  go_wp2_with fail
  obtain ⟨W2, hW2⟩ : ∃ W2, W2 = w1.alloc (.cells #[.slice (some ⟨g, 0, none⟩) 1 1] 24) := ⟨_, rfl⟩
  rw [← hW2]
  have k12 : KB F0 w1 W2 := by rw [hW2]; exact (KB.refl _ _).alloc _
  obtain ⟨O, hOe⟩ : ∃ O, O = w1.heap.size := ⟨_, rfl⟩
  have hO2 : W2.heap[O]? = some (.cells #[.slice (some ⟨g, 0, none⟩) 1 1] 24 (0, 0)) := by rw [hW2, hOe]; exact alloc_new _ _
  have hOb : w0.heap.size ≤ O := by rw [hOe]; exact HO.out.2.size
  rw [← hOe]
  have H2 := Lib.hid (And.intro (HO.out.1.kbF k12) (And.intro hO2 (HO.out.2.trans k12)))
  have HN := Lib.hid (And.intro hN (And.intro hK hM))
  clear k12 hO2 hOe hW2 HO
  go_loopw [8] (fun iv wr => ∃ (j : Nat) (v l0 : Value) (ls : List Value), j ≤ N + 1 ∧ iv = .int .i64 (j : Nat) ∧ OwnTs wr w0.heap.size v (lgT (lgF N K M) j) (l0 :: ls) ∧ Apart l0 ls ∧ wr.heap[O]? = some (.cells #[v] 24 (0, 0)) ∧ KB F0 w0 wr) (fun iv _ => N + 1 - (intOf iv).toNat)
  case atStart => exact ⟨0, _, _, _, by omega, rfl, H2.out.1, (fun u hu => by cases hu), H2.out.2.1, H2.out.2.2⟩
  case round =>
    obtain ⟨j, v, l0, ls, hj, rfl, hown, hap, hO, hkb⟩ := hrel
    by_cases hlt : j ≤ N
    · have HR := Lib.hid (And.intro hown (And.intro hap (And.intro hO hkb)))
      have TK := Lib.hid (fun (W : World) => ten5_any K bK.1 bK.2 W)
      have TM := Lib.hid (fun (W : World) => ten5_any M bM.1 bM.2 W)
      have htk := tenI_bound K bK.2
      have htm := tenI_bound M bM.2
      clear hown hap hO hkb
      go_wp2_with fail
      refine (TK.out wr).mono ?_
      rintro e w2 ⟨rfl, k2⟩
      have K2 := Lib.hid k2
      clear k2
      go_upto_if 32 with fail
      go_cut [9] from 30 to 34 (fun v wc => v = .int .i64 (lgF N K M j) ∧ Hid (KB F0 wr wc))
      case first =>
        by_cases he : j = N
        · have t1 : ((j : Int) == (N : Int)) = true := by simp; omega
          have HE : Hid (lgF N K M j = tenI M) := Lib.hid (if_pos he)
          subst he
          go_wp2_with fail
          refine (TM.out w2).mono ?_
          rintro e w3 ⟨rfl, k3⟩
          have K3 := Lib.hid (K2.out.trans k3)
          clear k3
          go_wp2_with fail
          go_meet
          exact ⟨by rw [HE.out], K3⟩
        · have t1 : ((j : Int) == (N : Int)) = false := by simp; omega
          have HE : Hid (lgF N K M j = tenI K) := Lib.hid (if_neg he)
          go_wp2_with fail
          go_meet
          exact ⟨by rw [HE.out], K2⟩
      case rest =>
        obtain ⟨rfl, kc⟩ := hcut
        obtain ⟨va, vc, rfl, hvn, hvc1, hvc2, hva⟩ := HR.out.1.nodes
        rcases hva with rfl | ⟨g2, rfl, hgB⟩
        · obtain ⟨b9, o9, e, h9⟩ := hvn 0 (by rw [lgT_len]; omega)
          cases e
        have hown := HR.out.1.kbF kc.out
        have hO4 := kc.out.heap (fun x => x) HR.out.2.2.1
        have hK4 := HR.out.2.2.2.trans kc.out
        obtain ⟨nn, hnn⟩ : ∃ nn : Nat, nn = 2 * j + 1 := ⟨_, rfl⟩
        rw [lgT_len, ← hnn] at hvc1
        rw [show (lgT (lgF N K M) j).length = nn by rw [lgT_len, hnn]] at hown hO4
        have hn0 : 0 < nn := by omega
        have hnb : nn + 2 ≤ 16384 := by omega
        have hown : OwnTs wc w0.heap.size (.slice (some ⟨g2, 0, none⟩) nn vc) (lgRoot j :: lgR (lgF N K M) j) (l0 :: ls) := hown
        obtain ⟨hgc, hgf, cur, hgh⟩ := hown.rootCell
        unfold maxLen at hvc2
        have hl0row := hown.lists 0 (by simp)
        simp only [List.getD_cons_zero] at hl0row
        have hl0row : wc.ownsRow w0.heap.size 3 1 l0 j (ints (lgL j)) := by
          have e1 : (lgRoot j).l = lgL j := rfl
          rw [e1, lgL_len] at hl0row
          exact hl0row
        have hlb : ∀ g', l0.ownBlock = some g' → g' < wc.heap.size ∧ w0.heap.size ≤ g' := fun g' hg' => by
          obtain ⟨cu, h1, h2⟩ := own_block hl0row hg'
          exact ⟨heap_lt h1, h2⟩
        have hnO : ¬ l0.ownBlock = some O := fun e => by
          obtain ⟨cu, h1, -⟩ := own_block hl0row e
          rw [hO4] at h1; cases h1
        have hng : ¬ l0.ownBlock = some g2 := fun e => by
          obtain ⟨cu, h1, -⟩ := own_block hl0row e
          rw [hgh] at h1; cases h1
        have R1 : ∀ w, GA w0.heap.size 3 l0 (j + 1) (ints (lgL j) ++ [.int .i64 nn]) wc w → w.cell? ⟨O, 0, none⟩ = some (.slice (some ⟨g2, 0, none⟩) nn vc) := fun w hG => blk_cell (hG.1.heap hnO hO4) 0
        have R2 : ∀ w, GA w0.heap.size 3 l0 (j + 1) (ints (lgL j) ++ [.int .i64 nn]) wc w → w.cell? ⟨g2, 4, none⟩ = some l0 := fun w hG => hG.1.cell (p := ⟨g2, 4, none⟩) hng hgc
        have hHR := Lib.hid (And.intro hown (And.intro HR.out.2.1 (And.intro hO4 (And.intro hl0row (And.intro hlb (And.intro hnO hng))))))
        have hK4 := Lib.hid hK4
        have HNN := Lib.hid hnn
        have hjb : j ≤ 8000 := by omega
        clear hgc hgf hgh hown hl0row hO4 hlb hnO hng hvn HR kc hnn
        go_wp2_with fail
        refine wp_region_rv 14 (GA w0.heap.size 3 l0 (j + 1) (ints (lgL j) ++ [.int .i64 nn])) (kindW [(10, fun v => OneRow wc.heap.size #[.int .i64 nn] 3 v, OneRowAt wc.heap.size #[.int .i64 nn] 3), (11, fun v => ∃ a c, v = .slice a (j + 1) c, FA w0.heap.size wc.heap.size 3 l0 (j + 1) (ints (lgL j) ++ [.int .i64 nn]))])
          (by kernel_rfl) (by kernel_rfl) GA.trans GA.refl (GA.start _) (kindW_monoG _ (by
            intro p hp; simp only [List.mem_cons, List.not_mem_nil, or_false] at hp
            rcases hp with rfl | rfl
            · rintro v a b hG ⟨nb, h1, h2, h3⟩
              exact ⟨nb, h1, h2, hG.1.heap (fun e => by have := (hHR.out.2.2.2.2.1 nb e).1; omega) h3⟩
            · intro v a b hG hf
              exact hf.lasts hG)) ?_
        simp only [List.take_succ_cons, List.take_zero, List.drop_succ_cons, List.drop_zero]
        iterate 10 (refine rv_det (by kernel_rfl) rfl (by intro w hG hH; have hc0 := R1 w hG; have hc1 := R2 w hG; go_simp; first | done | with_reducible rfl) ?_; simp only [Act.put, List.setIfInBounds_toArray, List.set_cons_zero, List.set_cons_succ])
        refine rv_rel (by kernel_rfl) rfl ⟨.slice (some ⟨_, 0, none⟩) 1 1, _, rfl, Nat.le_refl _⟩ (fun w hG hH => opVal_value (v := .slice (some ⟨w.heap.size, 0, none⟩) 1 1) (w' := w.alloc (.cells #[.int .i64 nn] 3)) (by go_simp; first | done | rfl)
          ⟨⟨_, rfl, hG.1.size⟩, GA.kb ((KB.refl (fun _ => False) w).alloc _) (fun _ x => x) (fun g' hg' => by have := (hHR.out.2.2.2.2.1 g' hg').1; have := hG.1.size; omega), ⟨_, rfl, hG.1.size, alloc_new w _⟩⟩) ?_
        rintro v ⟨nb, rfl, hnb4⟩
        simp only [Act.put, List.setIfInBounds_toArray, List.set_cons_zero, List.set_cons_succ]
        refine rv_rel (by kernel_rfl) rfl ⟨.slice none (j + 1) 0, _, _, rfl⟩ (fun w hG hH => by
          obtain ⟨nb', e, -, hrow⟩ := hH (10, fun w => OneRowAt wc.heap.size #[.int .i64 nn] 3 (.slice (some ⟨nb, 0, none⟩) 1 1) w) List.mem_cons_self (by kernel_rfl)
          simp only [Value.slice.injEq, Option.some.injEq, Addr.mk.injEq, and_true] at e
          subst e
          have hxl : (ints (lgL j)).length = j := by rw [ints_len]; exact lgL_len j
          have htk : (ints (lgL j) ++ [Value.int IntKind.i64 nn]).take j = ints (lgL j) := by
            have := List.take_left (l₁ := ints (lgL j)) (l₂ := [Value.int IntKind.i64 nn])
            rwa [hxl] at this
          have hold : w.ownsRow w0.heap.size 3 1 l0 j (ints (lgL j)) := by
            have := GA.old (m := j) hG (by rw [htk]; exact hHR.out.2.2.2.1) (by omega)
            rwa [htk] at this
          have hsw := hG.1.size
          refine opVal_imp (opVal_append (P := Tryz.prog) w0.heap.size wc.heap.size hsw (.tmp 41) (.tmp 45) 42 3 rfl Tryz.infoInt Tryz.underlying42 rfl l0 j (ints (lgL j)) (by go_simp; first | done | rfl) hold nb 1 (.int .i64 nn) 3 (by go_simp; first | done | rfl) hrow rfl (by unfold maxLen; omega) (by omega) (by have := hK4.out.size; omega)) ?_
          rintro v w' ⟨h1, h2⟩
          obtain ⟨a1, c1, e, -⟩ := own_shape h1.1
          exact ⟨⟨a1, c1, e⟩, h2, h1⟩) ?_
        rintro v ⟨va, vcc, rfl⟩
        simp only [Act.put, List.setIfInBounds_toArray, List.set_cons_zero, List.set_cons_succ]
        iterate 2 (refine rv_det (by kernel_rfl) rfl (by intro w hG hH; go_simp; first | done | with_reducible rfl) ?_; simp only [Act.put, List.setIfInBounds_toArray, List.set_cons_zero, List.set_cons_succ])
        refine rv_nil (fun w hG hH => ?_)
        obtain ⟨hfa1, hfa2⟩ : FA w0.heap.size wc.heap.size 3 l0 (j + 1) (ints (lgL j) ++ [.int .i64 nn]) (.slice va (j + 1) vcc) w := hH (11, fun w => FA w0.heap.size wc.heap.size 3 l0 (j + 1) (ints (lgL j) ++ [.int .i64 nn]) (.slice va (j + 1) vcc) w) List.mem_cons_self
        have hkG := hG.1
        obtain ⟨hc4, hf4, cur4, hh4⟩ := hHR.out.1.rootCell
        have hgw := hkG.heap hHR.out.2.2.2.2.2.2 hh4
        have hgcw := hkG.cell (p := ⟨g2, 4, none⟩) hHR.out.2.2.2.2.2.2 hc4
        have hgfw := blk_frozen hgw 4
        have hroot := hHR.out.1.root hHR.out.2.1 hkG (lv := .slice va (j + 1) vcc) (c := (nn : Int)) (by rw [show (lgRoot j).l = lgL j from rfl, lgL_len]; exact hfa1)
        have ks := kb_set w g2 4 (.slice va (j + 1) vcc)
        have hap' : Apart (.slice va (j + 1) vcc) ls := fun u hu g1 hg1 e => by
          rcases hfa2 with e2 | h2
          · have e3 : (Value.slice va (j + 1) vcc).ownBlock = l0.ownBlock := by rw [e2, inPlace_block]
            exact hHR.out.2.1 u hu g1 hg1 (by rw [← e3]; exact e)
          · have h3 := (h2 g1 e).2
            obtain ⟨q, hq, rfl⟩ := List.getElem_of_mem hu
            have hlen := hHR.out.1.len
            have h4 := hHR.out.1.lists (q + 1) (by simp at hlen ⊢; omega)
            have e5 : (l0 :: ls).getD (q + 1) undef = ls[q] := by simp [List.getD_eq_getElem?_getD, hq]
            rw [e5] at h4
            obtain ⟨cu, h5, -⟩ := own_block h4 hg1
            have h6 := heap_lt h5
            omega
        have hO5 := ks.heap (b := O) (fun e => by subst e; have := hHR.out.2.2.1; rw [hh4] at this; cases this) (hkG.heap hHR.out.2.2.2.2.2.1 hHR.out.2.2.1)
        have hkw : KB F0 w0 (w.setCell ⟨g2, 4, none⟩ (.slice va (j + 1) vcc)) := (hK4.out.above hkG (fun k hk => (hHR.out.2.2.2.2.1 k hk).2)).setCell (p := ⟨g2, 4, none⟩) (fun h => by
          have h1 : g2 < w0.heap.size := h; omega) _
        have hH5 := Lib.hid (And.intro hroot (And.intro hap' (And.intro hO5 hkw)))
        clear hfa1 hfa2 hkG hc4 hf4 hh4 hgw hroot ks hap' hO5 hkw hG hH R1 R2
        have hOw := blk_cell hH5.out.2.2.1 0
        go_wp2_with (at_builtin; refine Stopped.out ?_)
        refine ⟨?_⟩
        obtain ⟨W5, hW5⟩ : ∃ W5, W5 = w.setCell ⟨g2, 4, none⟩ (.slice va (j + 1) vcc) := ⟨_, rfl⟩
        rw [← hW5] at hH5 hOw ⊢
        have hs5 : W5.heap.size = w.heap.size := by rw [hW5]; simp [World.setCell]
        rw [← hs5]
        have hs51 : (W5.alloc (.cells #[.int .i64 ((nn : Int) + 1)] 3)).heap.size = W5.heap.size + 1 := by simp
        obtain ⟨W6, hW6⟩ : ∃ W6, W6 = (W5.alloc (.cells #[.int .i64 ((nn : Int) + 1)] 3)).alloc (.cells #[.int .u8 21, .int .i64 0, .int .i64 0, .string ⟨#[]⟩, .slice (some ⟨W5.heap.size, 0, none⟩) 1 1, .int .u8 24, .int .i64 0, .int .i64 (lgF N K M j), .string ⟨#[]⟩, .slice none 0 0] 44) := ⟨_, rfl⟩
        rw [← hW6]
        have k56 : KB F0 W5 W6 := by rw [hW6]; exact ((KB.refl _ _).alloc _).alloc _
        have hi6 : W6.heap[W5.heap.size]? = some (.cells #[.int .i64 ((nn : Int) + 1)] 3 (0, 0)) := by
          rw [hW6]; exact ((KB.refl F0 _).alloc _).heap (fun x => x) (alloc_new _ _)
        have hn6 : W6.heap[W5.heap.size + 1]? = some (.cells #[.int .u8 21, .int .i64 0, .int .i64 0, .string ⟨#[]⟩, .slice (some ⟨W5.heap.size, 0, none⟩) 1 1, .int .u8 24, .int .i64 0, .int .i64 (lgF N K M j), .string ⟨#[]⟩, .slice none 0 0] 44 (0, 0)) := by rw [hW6, ← hs51]; exact alloc_new _ _
        have e21 : (nn : Int) + 1 = ((2 * j + 2 : Nat) : Int) := by have := HNN.out; omega
        rw [e21] at hi6
        have hbs : w0.heap.size ≤ W5.heap.size := hH5.out.2.2.2.size
        have hpair : OwnTs W6 w0.heap.size (.slice (some ⟨W5.heap.size + 1, 0, none⟩) 2 2) [lgK j, lgV (lgF N K M j)] [.slice (some ⟨W5.heap.size, 0, none⟩) 1 1, .slice none 0 0] := own_pair rfl rfl hn6 hi6 (by omega) hbs
        have e22 : (nn : Int) = ((2 * j + 1 : Nat) : Int) := by have := HNN.out; omega
        have hroot6 := hH5.out.1.kbF k56
        rw [e22] at hroot6
        have hroot6 : OwnTs W6 w0.heap.size (.slice (some ⟨g2, 0, none⟩) nn vc) (lgRoot (j + 1) :: lgR (lgF N K M) j) (.slice va (j + 1) vcc :: ls) := hroot6
        have hrow6 := hroot6.row
        have hlen6 : (lgRoot (j + 1) :: lgR (lgF N K M) j : List Nd).length = nn := by rw [List.length_cons, lgR_len, HNN.out]
        rw [hlen6] at hrow6
        have HZ := Lib.hid (And.intro hroot6 (And.intro hpair (And.intro hrow6 (And.intro k56 hi6))))
        have hO6 := k56.heap (fun x => x) hH5.out.2.2.1
        have hbase6 := (hH5.out.2.2.2.trans k56).size
        have HS5 := Lib.hid (heap_lt hi6)
        clear hs5 hs51 hW6 hW5 hi6 hn6 e21 e22 hroot6 hrow6 hpair k56
        obtain ⟨i, hi, hz0, hz1, hz2⟩ := info_parts Tryz.infoNode
        refine wpList_append_own _ rfl _ _ 22 rfl w0.heap.size 44 i _ 5 64 Tryz.underlying22 hi hz0 hz1 hz2 rfl (by decide) _ nn _ rfl HZ.out.2.2.1 ⟨W5.heap.size + 1, 0, none⟩ 2 2 (rowCells [lgK j, lgV (lgF N K M j)] [.slice (some ⟨W5.heap.size, 0, none⟩) 1 1, .slice none 0 0]) rfl rfl
          (HZ.out.2.1.row.cells rfl) HZ.out.2.1.one (by unfold maxLen; omega) (by omega) hbase6 ?_
        rintro v' w7 hown7 hgr7 -
        have hown8 := HZ.out.1.append HZ.out.2.1 (by rw [hlen6]; exact hown7) hgr7
        have hkb7 := (hH5.out.2.2.2.trans HZ.out.2.2.2.1).grown hgr7 (fun k e h => by
          obtain ⟨-, -, hb⟩ := own_block HZ.out.1.row e
          omega)
        have hO7 : w7.heap[O]? = some (.cells #[.slice (some ⟨g2, 0, none⟩) nn vc] 24 (0, 0)) := by
          rw [hgr7.block O (heap_lt hO6) (fun e => by
            obtain ⟨cu, h1, -⟩ := own_block HZ.out.1.row e.symm
            rw [hO6] at h1; cases h1)]
          exact hO6
        obtain ⟨a7, c7, rfl, -⟩ := own_shape hown7
        have k8 := kb_set w7 O 0 (.slice a7 (nn + 2) c7)
        have hown9 := hown8.other k8 hO7 (by decide) (by decide)
        have hO8 := setCell_blk (i := 0) hO7 (.slice a7 (nn + 2) c7)
        have hkb8 := hkb7.setCell (p := ⟨O, 0, none⟩) (fun h => by
          have h1 : O < w0.heap.size := h; omega) (.slice a7 (nn + 2) c7)
        have hap8 : Apart (.slice va (j + 1) vcc) (ls ++ [.slice (some ⟨W5.heap.size, 0, none⟩) 1 1, .slice none 0 0]) := fun u hu g1 hg1 e => by
          rcases List.mem_append.1 hu with hu | hu
          · exact hH5.out.2.1 u hu g1 hg1 e
          · simp only [List.mem_cons, List.not_mem_nil, or_false] at hu
            rcases hu with rfl | rfl
            · simp [Value.ownBlock] at hg1
              obtain ⟨cu2, h7, -⟩ := own_block (hH5.out.1.lists 0 (by simp)) (g := g1) e
              have := heap_lt h7
              omega
            · cases hg1
        have c0O := blk_cell hO7 0
        have f0O := blk_frozen hO7 0
        have HY := Lib.hid (And.intro hown9 (And.intro hO8 (And.intro hkb8 hap8)))
        clear hown8 hown9 hkb7 hO7 k8 hO8 hkb8 hap8 hown7 hgr7 hi hz0 hz1 hz2 hOw hO6
        simp at c0O
        go_wp2
        go_roundw
        case rel => exact ⟨j + 1, _, _, _, by omega, by go_num, HY.out.1, HY.out.2.2.2, HY.out.2.1, HY.out.2.2.1⟩
        case measure => simp [intOf]; omega
    · have hjN : j = N + 1 := by omega
      obtain ⟨hm1, hm2, hm3, hm4⟩ := long_law N K M bN bK.1 bK.2 bM.1 bM.2
      rw [← hjN] at hm1 hm2 hm3 hm4
      obtain ⟨va, vc, rfl, hvn, -, -, -⟩ := hown.nodes
      have hlen : (lgT (lgF N K M) j).length = 2 * j + 1 := lgT_len _ _
      have PL := Lib.hid (plines_any (lgT (lgF N K M) j) (by omega) hm2 va vc wr hvn (HH.out.kb hkb))
      have AW := Lib.hid (fun (W : World) (hk : KB F0 w0 W) => awake5_any W (HH.out.kb hk))
      have cO := blk_cell hO 0
      have d0 : decide (j ≤ N) = false := decide_eq_false hlt
      have HK := Lib.hid hkb
      rw [hm3] at PL
      have HL := Lib.hid hm4
      generalize linesN (lgT (lgF N K M) j) = LL at PL HL
      generalize (lgT (lgF N K M) j).length = nn at PL cO
      obtain ⟨T, hTe⟩ : ∃ T, T = N * (13 + K) := ⟨_, rfl⟩
      have hTb : T ≤ 8000 * 31 := by rw [hTe]; exact Nat.mul_le_mul bN (by omega)
      rw [← hTe] at PL
      have hw1 : IntKind.i64.wrap ((N : Int) * (13 + (K : Int))) = (T : Int) := by
        have e : (N : Int) * (13 + (K : Int)) = (T : Int) := by rw [hTe]; push_cast; rfl
        rw [e]; exact w64 (by omega) (by omega)
      clear hown hap hO hkb hvn hm1 hm2 hm3 hm4 hlen hjN hj hTe
      by_cases hbig : 65536 < 4 + T + 13 + M
      · rw [if_pos hbig] at PL
        have b1 : (65536 : Int) < 4 + (T : Int) + 13 + (M : Int) := by omega
        clear hbig
        go_wp2_with fail
        refine PL.out.mono ?_
        rintro e w2 ⟨v1, rfl, o1, k2⟩
        obtain ⟨x1, y1, rfl, -, -, -, -⟩ := own_shape o1
        have K2 := Lib.hid (HK.out.trans k2)
        clear k2 o1
        go_wp2_with fail
        refine (AW.out w2 K2.out).mono ?_
        rintro e w3 ⟨rfl, k3⟩
        have K3 := Lib.hid (K2.out.trans k3)
        clear k3
        go_wp2_with fail
        go_ret
        exact ⟨rfl, K3.out⟩
      · rw [if_neg hbig] at PL
        have b1 : ¬ (65536 : Int) < 4 + (T : Int) + 13 + (M : Int) := by omega
        clear hbig
        go_wp2_with fail
        refine PL.out.mono ?_
        rintro e w2 ⟨v1, rfl, o1, k2⟩
        simp only [HL.out] at o1
        obtain ⟨x1, y1, rfl, -, -, -, -⟩ := own_shape o1
        have K2 := Lib.hid (HK.out.trans k2)
        clear k2 o1
        go_wp2_with fail
        refine (AW.out w2 K2.out).mono ?_
        rintro e w3 ⟨rfl, k3⟩
        have K3 := Lib.hid (K2.out.trans k3)
        clear k3
        go_wp2_with fail
        go_ret
        exact ⟨rfl, K3.out⟩
end Go.Proofs.YtoophdcagpfmpaaGreatDoor

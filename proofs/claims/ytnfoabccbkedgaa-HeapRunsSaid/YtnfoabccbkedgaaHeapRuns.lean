/- HeapRuns: for every list of steps the law returns true; its argument reads as before. No condition beyond the given row's own. -/
import Derived.Test.YtnfoabccbkedgaaHeapRunsA
import Derived.Test.YtnfoabccbkedgaaRow
namespace Go.Proofs.Ytnfoabccbkedgaa
open Go.ChangeShapes Go.WideShapes Go.ChangeAt Go.RowKit

set_option maxHeartbeats 1000000 in
theorem runs_long (a1 : Option Addr) (n1 c1 : Nat) (few : Int) (w : World) (h : 300 < n1) :
    Calls Try.prog 3 #[.slice a1 n1 c1, .int .i64 few] w (lawPost w) := by
  have d1 : decide ((300 : Int) < (n1 : Int)) = true := by simp; omega
  go_enter Try.func3, Try.ntmps3
  go_wp2_with fail
  refine (awake_any _).mono ?_
  rintro e w' ⟨rfl, hk⟩
  go_wp2
  go_ret
  exact ⟨rfl, hk⟩

def RunsInv (b bx : Nat) (n : Nat) (w : World) (i : Value) (wr : World) : Prop := ∃ (k : Nat) (s : HS), k ≤ n ∧ i = .int .i64 k ∧ IH wr b s ∧ IX wr bx s ∧ KB (fun _ => False) w wr

set_option maxRecDepth 100000 in
theorem zeroX (w : World) : (zeroValue 31).run Try.prog w = .ok (.agg (xarr HS.new)) w := by kernel_rfl

set_option maxRecDepth 100000 in
set_option maxHeartbeats 8000000 in
theorem runs_short (a1 : Option Addr) (xs1 : List Int) (c1 : Nat) (few : Int) (w : World) (h1 : xs1.length ≤ 300)
    (hx1 : IntsAt w a1 xs1) (hr1 : ∀ x ∈ xs1, -9223372036854775808 ≤ x ∧ x < 9223372036854775808) :
    Calls Try.prog 3 #[.slice a1 xs1.length c1, .int .i64 few] w (lawPost w) := by
  obtain ⟨b, hb⟩ : ∃ b, b = w.heap.size := ⟨_, rfl⟩
  have Hnew := Lib.hid (new_any w)
  rw [← hb] at Hnew
  have hget : ∀ k, k < xs1.length → -9223372036854775808 ≤ xs1.getD k 0 ∧ xs1.getD k 0 < 9223372036854775808 := fun k hk => by
    rw [List.getD_eq_getElem?_getD, List.getElem?_eq_getElem hk]; exact hr1 _ (List.getElem_mem hk)
  have Hget := Lib.hid hget
  obtain ⟨n1, hn1⟩ : ∃ n, n = xs1.length := ⟨_, rfl⟩
  have HX := Lib.hid (And.intro hx1 hn1)
  rw [← hn1] at h1 Hget ⊢
  have d1 : decide ((300 : Int) < (n1 : Int)) = false := by simp; omega
  have HB := Lib.hid hb
  clear hx1 hr1 hget hn1 hb
  go_enter Try.func3, Try.ntmps3
  go_wp2_with fail
  refine Hnew.out.mono ?_
  rintro e w1 ⟨rfl, i1, k1⟩
  have I1 := Lib.hid (And.intro i1 k1)
  have hb1 := heap_lt i1.1
  clear i1 k1 Hnew
  have hz := zeroX
  go_wp2_with fail
  clear hz
  obtain ⟨bx, hbx⟩ : ∃ bx, bx = w1.heap.size := ⟨_, rfl⟩
  obtain ⟨w2, hw2⟩ : ∃ w2, w2 = w1.alloc (.cells (xarr HS.new) 31) := ⟨_, rfl⟩
  have S2 : Hid (IH w2 b HS.new ∧ IX w2 bx HS.new ∧ KB (fun _ => False) w w2) := Lib.hid (by
    subst hbx hw2
    have ka := (KB.refl (fun _ => False) w1).alloc (.cells (xarr HS.new) 31)
    exact ⟨I1.out.1.kb ka (fun x => x), ⟨alloc_new w1 _, fun _ _ => by simp [HS.new]⟩, I1.out.2.trans ka⟩)
  rw [← hbx, ← hw2]
  have hbbx : b < bx := by rw [hbx]; exact hb1
  have hwb : w.heap.size ≤ b := Nat.le_of_eq HB.out.symm
  clear hbx hw2 I1 hb1
  go_loopw [7] (fun iv wr => RunsInv b bx n1 w iv wr) (fun iv _ => n1 - (intOf iv).toNat)
  case atStart => exact ⟨0, HS.new, by omega, rfl, S2.out.1, S2.out.2.1, S2.out.2.2⟩
  case round =>
    obtain ⟨k, s, hk, rfl, ih, ix, hkb⟩ := hrel
    clear S2
    have HR := Lib.hid (And.intro ih (And.intro ix hkb))
    by_cases hlt : k < n1
    · obtain ⟨c, hc⟩ : ∃ c, c = xs1.getD k 0 := ⟨_, rfl⟩
      have hrange := Hget.out k hlt
      rw [← hc] at hrange
      obtain ⟨xb, xo, ha1, hcell⟩ := HX.out.1 k (by rw [← HX.out.2]; exact hlt)
      rw [← hc] at hcell
      have hxlt : xb < w.heap.size := World.block_lt_of_cell? w _ hcell
      have HC := Lib.hid (fun (wq : World) (h : KB (fun _ => False) w wq) => h.cell (p := ⟨xb, xo + k, none⟩) (fun x => x) hcell)
      subst ha1
      have hzX := fun w => (zeroX w)
      have hbxlt := heap_lt ix.1
      have hblt := heap_lt ih.1
      have hszw := HR.out.2.2.size
      clear ih ix hkb hcell hc
      go_wp2_with fail
      refine wp_region_rv 7 GK (kindW [(1, fun v => ∃ cb, v = .pointer (some ⟨cb, 0, none⟩) ∧ wr.heap.size ≤ cb, fun v w' => ∃ cb, v = .pointer (some ⟨cb, 0, none⟩) ∧ wr.heap.size ≤ cb ∧ IH w' cb s), (5, fun v => ∃ nb, v = .pointer (some ⟨nb, 0, none⟩) ∧ wr.heap.size ≤ nb, fun v w' => ∃ nb, v = .pointer (some ⟨nb, 0, none⟩) ∧ wr.heap.size ≤ nb ∧ w'.heap[nb]? = some (.cells (xarr HS.new) 31 (0, 0)))]) (by kernel_rfl) (by kernel_rfl) (kb_trans _) (kb_refl _) (kb_start _ _) (kindW_mono _ (by intro p hp; simp only [List.mem_cons, List.not_mem_nil, or_false] at hp; rcases hp with rfl | rfl; exact fun v p q hG ⟨cb, h1, h2, h3⟩ => ⟨cb, h1, h2, h3.kb hG (fun x => x)⟩; exact fun v p q hG ⟨cb, h1, h2, h3⟩ => ⟨cb, h1, h2, hG.heap (fun x => x) h3⟩)) ?_
      simp only [List.take_succ_cons, List.take_zero, List.drop_succ_cons, List.drop_zero]
      refine rv_det (by kernel_rfl) rfl (by intro w hG hH; go_simp; first | done | with_reducible rfl) ?_
      simp only [Act.put, List.setIfInBounds_toArray, List.set_cons_zero, List.set_cons_succ]
      refine rv_rel (by kernel_rfl) rfl ⟨.pointer (some ⟨_, 0, none⟩), _, rfl, Nat.le_refl _⟩ (by
        intro w hG hH
        refine opVal_call (by go_simp; first | done | exact ⟨⟨rfl, rfl⟩, rfl⟩) ?_
        refine (copy_any b s _ (HR.out.1.kb hG (fun x => x))).mono ?_
        rintro e w' ⟨rfl, hi, hk⟩
        exact ⟨_, rfl, ⟨_, rfl, hG.size⟩, hk, ⟨_, rfl, hG.size, hi⟩⟩) ?_
      rintro v ⟨cb, rfl, hcb⟩
      simp only [Act.put, List.setIfInBounds_toArray, List.set_cons_zero, List.set_cons_succ]
      refine rv_det (by kernel_rfl) rfl (by intro w hG hH; go_simp; first | done | with_reducible rfl) ?_
      simp only [Act.put, List.setIfInBounds_toArray, List.set_cons_zero, List.set_cons_succ]
      refine rv_det (by kernel_rfl) rfl (by intro w hG hH; go_simp; first | done | with_reducible rfl) ?_
      simp only [Act.put, List.setIfInBounds_toArray, List.set_cons_zero, List.set_cons_succ]
      refine rv_det (v := .agg (xarr s)) (by kernel_rfl) rfl (fun w hG hH => exec_load_row 31 (.tmp 37) rfl bx rfl 31 (xarr s) (0, 0) _ (hG.heap (fun x => x) HR.out.2.1.1) Try.underlying31 rfl (by rw [xarr_size]; kernel_rfl)) ?_
      simp only [Act.put, List.setIfInBounds_toArray, List.set_cons_zero, List.set_cons_succ]
      refine rv_rel (by kernel_rfl) rfl ⟨.pointer (some ⟨_, 0, none⟩), _, rfl, Nat.le_refl _⟩ (fun w hG hH => opVal_value (v := .pointer (some ⟨w.heap.size, 0, none⟩)) (w' := w.alloc (.cells (xarr HS.new) 31)) (by go_simp; first | done | rfl)
        ⟨⟨_, rfl, hG.size⟩, (KB.refl _ w).alloc _, ⟨_, rfl, hG.size, alloc_new w _⟩⟩) ?_
      rintro v ⟨nb, rfl, hnb⟩
      simp only [Act.put, List.setIfInBounds_toArray, List.set_cons_zero, List.set_cons_succ]
      refine rv_det (by kernel_rfl) rfl (by intro w hG hH; go_simp; first | done | with_reducible rfl) ?_
      simp only [Act.put, List.setIfInBounds_toArray, List.set_cons_zero, List.set_cons_succ]
      refine rv_nil (fun w hG hH => ?_)
      -- AFTER THE COPY
      obtain ⟨nb', e2, -, hy⟩ := hH _ (List.Mem.head _)
      obtain ⟨cb', e1, -, hcp⟩ := hH _ (List.Mem.tail _ (List.Mem.head _))
      simp only [Value.pointer.injEq, Option.some.injEq, Addr.mk.injEq, and_true] at e1 e2
      subst e1 e2
      have hne : cb ≠ nb := by
        rintro rfl
        have := hcp.1.symm.trans hy
        simp at this
      obtain ⟨W1, hW1⟩ : ∃ W1, W1 = w.setRow nb (xarr s) := ⟨_, rfl⟩
      have kW : KB (· = nb) w W1 := by rw [hW1]; exact kb_setRow w nb _
      have kk : KB (fun _ => False) wr W1 := hG.seq kW (fun j h1 h2 => by omega)
      have iy : IX W1 nb s := ⟨by rw [hW1]; exact setRow_heap w nb _ _ _ _ hy, HR.out.2.1.2⟩
      have H1 := Lib.hid (And.intro (HR.out.1.kb kk (fun x => x)) (And.intro (HR.out.2.1.kb kk (fun x => x)) (And.intro (hcp.kb kW hne) (And.intro iy (HR.out.2.2.trans kk)))))
      have hl1 := HC.out _ (HR.out.2.2.trans kk)
      clear hH hcp hG kk iy kW hne HR
      refine wpList_store_row rfl 31 (.tmp 9) (.tmp 38) rfl nb 31 (xarr HS.new) (xarr s) rfl rfl hy (by rw [xarr_size]; kernel_rfl) (by rw [xarr_size, xarr_size]) (xarr_one s) ?_
      rw [← hW1]
      clear hy hW1
      have hkx : (k : Int) < 300 := by omega
      by_cases hpos : 0 ≤ c
      · have t1 : decide ((0 : Int) ≤ c) = true := by simpa using hpos
        obtain ⟨p, r, s', hr⟩ : ∃ p r s', s.take c = (p, r, s') := ⟨_, _, _, rfl⟩
        have ht := take_any b s c W1 H1.out.1
        have hrt := fun wq h => rtake_any bx s c wq h
        rw [hr] at ht
        rw [hr] at hrt
        dsimp only at ht hrt
        have Ht := Lib.hid ht
        have Hrt := Lib.hid hrt
        clear ht hrt hr hpos
        go_wp2_with fail
        refine Ht.out.mono ?_
        rintro e W2 ⟨rfl, i2, k2⟩
        have H2 := Lib.hid (And.intro i2 (And.intro (H1.out.2.1.kb k2 (by omega)) (And.intro (H1.out.2.2.1.kb k2 (by omega)) (And.intro (H1.out.2.2.2.1.kb k2 (by omega)) (H1.out.2.2.2.2.seq k2 (fun j h1 h2 => by omega))))))
        have hl2 := HC.out _ H2.out.2.2.2.2
        clear i2 k2 hl1
        go_wp2_with fail
        refine (Hrt.out _ H2.out.2.1).mono ?_
        rintro e W3 ⟨rfl, i3, k3⟩
        have H3 := Lib.hid (And.intro (H2.out.1.kb k3 (by omega)) (And.intro i3 (And.intro (H2.out.2.2.1.kb k3 (by omega)) (And.intro (H2.out.2.2.2.1.kb k3 (by omega)) (H2.out.2.2.2.2.seq k3 (fun j h1 h2 => by omega))))))
        clear i3 k3 hl2 Ht Hrt H2 H1
        obtain ⟨q, hq⟩ : ∃ q, q = s'.same s := ⟨_, rfl⟩
        have heq := fun w => taken_eql s' s w
        have hsm := fun w h1 h2 => same_any b cb s' s w h1 h2
        rw [← hq] at heq hsm
        have Hsame := Lib.hid hsm
        clear hq hsm
        have hn1' : (n1 : Int) ≤ 300 := by omega
        have hn1p : (1 : Int) ≤ n1 := by omega
        have hkn : (k : Int) < n1 := by omega
        by_cases hm : (k : Int) % 16 = 0
        · have t8 : ((k : Int) % 16 == 0) = true := by simp [hm]
          clear hm
          go_wp2_with fail
          refine wp_region_rv 28 GK (kindW [(5, fun v => v = .bool true, fun _ _ => True), (12, fun v => v = .bool true, fun _ _ => True), (18, fun v => v = .bool q, fun _ _ => True)]) (by kernel_rfl) (by kernel_rfl) (kb_trans _) (kb_refl _) (kb_start _ _) (kindW_mono _ (by intro p hp; simp only [List.mem_cons, List.not_mem_nil, or_false] at hp; rcases hp with rfl | rfl | rfl <;> exact lasts_true)) ?_
          simp only [List.take_succ_cons, List.take_zero, List.drop_succ_cons, List.drop_zero]
          refine rv_det (by kernel_rfl) rfl (by intro w hG hH; go_simp; first | done | with_reducible rfl) ?_
          simp only [Act.put, List.setIfInBounds_toArray, List.set_cons_zero, List.set_cons_succ]
          refine rv_det (by kernel_rfl) rfl (by intro w hG hH; go_simp; first | done | with_reducible rfl) ?_
          simp only [Act.put, List.setIfInBounds_toArray, List.set_cons_zero, List.set_cons_succ]
          refine rv_det (by kernel_rfl) rfl (by intro w hG hH; go_simp; first | done | with_reducible rfl) ?_
          simp only [Act.put, List.setIfInBounds_toArray, List.set_cons_zero, List.set_cons_succ]
          refine rv_det (by kernel_rfl) rfl (by intro w hG hH; go_simp; first | done | with_reducible rfl) ?_
          simp only [Act.put, List.setIfInBounds_toArray, List.set_cons_zero, List.set_cons_succ]
          refine rv_det (by kernel_rfl) rfl (by intro w hG hH; go_simp; first | done | with_reducible rfl) ?_
          simp only [Act.put, List.setIfInBounds_toArray, List.set_cons_zero, List.set_cons_succ]
          refine rv_rel (by kernel_rfl) rfl ⟨_, rfl⟩ (by
            intro w hG hH
            refine opVal_call (by go_simp; first | done | exact ⟨⟨rfl, rfl⟩, rfl⟩) ?_
            refine (stands_any cb nb few s _ (H3.out.2.2.1.kb hG (fun x => x)) (H3.out.2.2.2.1.kb hG (fun x => x))).mono ?_
            rintro e w' ⟨rfl, hq⟩
            exact ⟨_, rfl, rfl, by first | (obtain ⟨nq, rfl⟩ := hq; exact (KB.refl _ _).drewN _) | (subst hq; exact KB.refl _ _) | exact hq, trivial⟩) ?_
          rintro v rfl
          simp only [Act.put, List.setIfInBounds_toArray, List.set_cons_zero, List.set_cons_succ]
          refine rv_det (by kernel_rfl) rfl (by intro w hG hH; go_simp; first | done | with_reducible rfl) ?_
          simp only [Act.put, List.setIfInBounds_toArray, List.set_cons_zero, List.set_cons_succ]
          refine rv_det (by kernel_rfl) rfl (by intro w hG hH; go_simp; first | done | with_reducible rfl) ?_
          simp only [Act.put, List.setIfInBounds_toArray, List.set_cons_zero, List.set_cons_succ]
          refine rv_det (by kernel_rfl) rfl (by intro w hG hH; go_simp; first | done | with_reducible rfl) ?_
          simp only [Act.put, List.setIfInBounds_toArray, List.set_cons_zero, List.set_cons_succ]
          refine rv_det (by kernel_rfl) rfl (by intro w hG hH; go_simp; first | done | with_reducible rfl) ?_
          simp only [Act.put, List.setIfInBounds_toArray, List.set_cons_zero, List.set_cons_succ]
          refine rv_det (by kernel_rfl) rfl (by intro w hG hH; go_simp; first | done | with_reducible rfl) ?_
          simp only [Act.put, List.setIfInBounds_toArray, List.set_cons_zero, List.set_cons_succ]
          refine rv_det (by kernel_rfl) rfl (by intro w hG hH; go_simp; first | done | with_reducible rfl) ?_
          simp only [Act.put, List.setIfInBounds_toArray, List.set_cons_zero, List.set_cons_succ]
          refine rv_rel (by kernel_rfl) rfl ⟨_, rfl⟩ (by
            intro w hG hH
            refine opVal_call (by go_simp; first | done | exact ⟨⟨rfl, rfl⟩, rfl⟩) ?_
            refine (stands_any b bx few s' _ (H3.out.1.kb hG (fun x => x)) (H3.out.2.1.kb hG (fun x => x))).mono ?_
            rintro e w' ⟨rfl, hq⟩
            exact ⟨_, rfl, rfl, by first | (obtain ⟨nq, rfl⟩ := hq; exact (KB.refl _ _).drewN _) | (subst hq; exact KB.refl _ _) | exact hq, trivial⟩) ?_
          rintro v rfl
          simp only [Act.put, List.setIfInBounds_toArray, List.set_cons_zero, List.set_cons_succ]
          refine rv_det (by kernel_rfl) rfl (by intro w hG hH; go_simp; first | done | with_reducible rfl) ?_
          simp only [Act.put, List.setIfInBounds_toArray, List.set_cons_zero, List.set_cons_succ]
          refine rv_det (by kernel_rfl) rfl (by intro w hG hH; go_simp; first | done | with_reducible rfl) ?_
          simp only [Act.put, List.setIfInBounds_toArray, List.set_cons_zero, List.set_cons_succ]
          refine rv_det (by kernel_rfl) rfl (by intro w hG hH; go_simp; first | done | with_reducible rfl) ?_
          simp only [Act.put, List.setIfInBounds_toArray, List.set_cons_zero, List.set_cons_succ]
          refine rv_det (by kernel_rfl) rfl (by intro w hG hH; go_simp; first | done | with_reducible rfl) ?_
          simp only [Act.put, List.setIfInBounds_toArray, List.set_cons_zero, List.set_cons_succ]
          refine rv_det (by kernel_rfl) rfl (by intro w hG hH; go_simp; first | done | with_reducible rfl) ?_
          simp only [Act.put, List.setIfInBounds_toArray, List.set_cons_zero, List.set_cons_succ]
          refine rv_rel (by kernel_rfl) rfl ⟨_, rfl⟩ (by
            intro w hG hH
            refine opVal_call (by go_simp; first | done | exact ⟨⟨rfl, rfl⟩, rfl⟩) ?_
            refine (Hsame.out _ (H3.out.1.kb hG (fun x => x)) (H3.out.2.2.1.kb hG (fun x => x))).mono ?_
            rintro e w' ⟨rfl, hq⟩
            exact ⟨_, rfl, rfl, by first | (obtain ⟨nq, rfl⟩ := hq; exact (KB.refl _ _).drewN _) | (subst hq; exact KB.refl _ _) | exact hq, trivial⟩) ?_
          rintro v rfl
          simp only [Act.put, List.setIfInBounds_toArray, List.set_cons_zero, List.set_cons_succ]
          refine rv_det (by kernel_rfl) rfl (by intro w hG hH; go_simp; first | done | with_reducible rfl) ?_
          simp only [Act.put, List.setIfInBounds_toArray, List.set_cons_zero, List.set_cons_succ]
          refine rv_det (by kernel_rfl) rfl (by intro w hG hH; go_simp; first | done | with_reducible rfl) ?_
          simp only [Act.put, List.setIfInBounds_toArray, List.set_cons_zero, List.set_cons_succ]
          refine rv_det (by kernel_rfl) rfl (by intro w hG hH; go_simp; first | done | with_reducible rfl) ?_
          simp only [Act.put, List.setIfInBounds_toArray, List.set_cons_zero, List.set_cons_succ]
          refine rv_det (v := .agg (tcells s').toArray) (by kernel_rfl) rfl (fun w hG hH => exec_load_mid 28 (.tmp 135) rfl bx 0 rfl (tcells s') _ (H3.out.2.1.kb hG (fun x => x)).range Try.underlying28 rfl (by rw [tcells_len]; kernel_rfl)) ?_
          simp only [Act.put, List.setIfInBounds_toArray, List.set_cons_zero, List.set_cons_succ]
          refine rv_det (by kernel_rfl) rfl (by intro w hG hH; go_simp; first | done | with_reducible rfl) ?_
          simp only [Act.put, List.setIfInBounds_toArray, List.set_cons_zero, List.set_cons_succ]
          refine rv_det (v := .agg (tcells s).toArray) (by kernel_rfl) rfl (fun w hG hH => exec_load_mid 28 (.tmp 137) rfl nb 0 rfl (tcells s) _ (H3.out.2.2.2.1.kb hG (fun x => x)).range Try.underlying28 rfl (by rw [tcells_len]; kernel_rfl)) ?_
          simp only [Act.put, List.setIfInBounds_toArray, List.set_cons_zero, List.set_cons_succ]
          refine rv_det (by kernel_rfl) rfl (by intro w hG hH; go_simp; first | done | with_reducible rfl) ?_
          simp only [Act.put, List.setIfInBounds_toArray, List.set_cons_zero, List.set_cons_succ]
          refine rv_det (by kernel_rfl) rfl (by intro w hG hH; go_simp; first | done | with_reducible rfl) ?_
          simp only [Act.put, List.setIfInBounds_toArray, List.set_cons_zero, List.set_cons_succ]
          refine rv_det (by kernel_rfl) rfl (by intro w hG hH; go_simp; first | done | with_reducible rfl) ?_
          simp only [Act.put, List.setIfInBounds_toArray, List.set_cons_zero, List.set_cons_succ]
          refine rv_nil (fun w hG hH => ?_)
          clear hH
          go_wp2_with fail
          go_roundw
          case rel => exact ⟨k + 1, s', by omega, by go_num, H3.out.1.kb hG (fun x => x), H3.out.2.1.kb hG (fun x => x), H3.out.2.2.2.2.trans hG⟩
          case measure => simp [intOf]; omega

        · have t8 : ((k : Int) % 16 == 0) = false := by simp [hm]
          clear hm
          by_cases hl : k + 1 = n1
          · have t9 : ((k : Int) == (n1 : Int) - 1) = true := by simp; omega
            go_wp2_with fail
            refine wp_region_rv 28 GK (kindW [(5, fun v => v = .bool true, fun _ _ => True), (12, fun v => v = .bool true, fun _ _ => True), (18, fun v => v = .bool q, fun _ _ => True)]) (by kernel_rfl) (by kernel_rfl) (kb_trans _) (kb_refl _) (kb_start _ _) (kindW_mono _ (by intro p hp; simp only [List.mem_cons, List.not_mem_nil, or_false] at hp; rcases hp with rfl | rfl | rfl <;> exact lasts_true)) ?_
            simp only [List.take_succ_cons, List.take_zero, List.drop_succ_cons, List.drop_zero]
            refine rv_det (by kernel_rfl) rfl (by intro w hG hH; go_simp; first | done | with_reducible rfl) ?_
            simp only [Act.put, List.setIfInBounds_toArray, List.set_cons_zero, List.set_cons_succ]
            refine rv_det (by kernel_rfl) rfl (by intro w hG hH; go_simp; first | done | with_reducible rfl) ?_
            simp only [Act.put, List.setIfInBounds_toArray, List.set_cons_zero, List.set_cons_succ]
            refine rv_det (by kernel_rfl) rfl (by intro w hG hH; go_simp; first | done | with_reducible rfl) ?_
            simp only [Act.put, List.setIfInBounds_toArray, List.set_cons_zero, List.set_cons_succ]
            refine rv_det (by kernel_rfl) rfl (by intro w hG hH; go_simp; first | done | with_reducible rfl) ?_
            simp only [Act.put, List.setIfInBounds_toArray, List.set_cons_zero, List.set_cons_succ]
            refine rv_det (by kernel_rfl) rfl (by intro w hG hH; go_simp; first | done | with_reducible rfl) ?_
            simp only [Act.put, List.setIfInBounds_toArray, List.set_cons_zero, List.set_cons_succ]
            refine rv_rel (by kernel_rfl) rfl ⟨_, rfl⟩ (by
              intro w hG hH
              refine opVal_call (by go_simp; first | done | exact ⟨⟨rfl, rfl⟩, rfl⟩) ?_
              refine (stands_any cb nb few s _ (H3.out.2.2.1.kb hG (fun x => x)) (H3.out.2.2.2.1.kb hG (fun x => x))).mono ?_
              rintro e w' ⟨rfl, hq⟩
              exact ⟨_, rfl, rfl, by first | (obtain ⟨nq, rfl⟩ := hq; exact (KB.refl _ _).drewN _) | (subst hq; exact KB.refl _ _) | exact hq, trivial⟩) ?_
            rintro v rfl
            simp only [Act.put, List.setIfInBounds_toArray, List.set_cons_zero, List.set_cons_succ]
            refine rv_det (by kernel_rfl) rfl (by intro w hG hH; go_simp; first | done | with_reducible rfl) ?_
            simp only [Act.put, List.setIfInBounds_toArray, List.set_cons_zero, List.set_cons_succ]
            refine rv_det (by kernel_rfl) rfl (by intro w hG hH; go_simp; first | done | with_reducible rfl) ?_
            simp only [Act.put, List.setIfInBounds_toArray, List.set_cons_zero, List.set_cons_succ]
            refine rv_det (by kernel_rfl) rfl (by intro w hG hH; go_simp; first | done | with_reducible rfl) ?_
            simp only [Act.put, List.setIfInBounds_toArray, List.set_cons_zero, List.set_cons_succ]
            refine rv_det (by kernel_rfl) rfl (by intro w hG hH; go_simp; first | done | with_reducible rfl) ?_
            simp only [Act.put, List.setIfInBounds_toArray, List.set_cons_zero, List.set_cons_succ]
            refine rv_det (by kernel_rfl) rfl (by intro w hG hH; go_simp; first | done | with_reducible rfl) ?_
            simp only [Act.put, List.setIfInBounds_toArray, List.set_cons_zero, List.set_cons_succ]
            refine rv_det (by kernel_rfl) rfl (by intro w hG hH; go_simp; first | done | with_reducible rfl) ?_
            simp only [Act.put, List.setIfInBounds_toArray, List.set_cons_zero, List.set_cons_succ]
            refine rv_rel (by kernel_rfl) rfl ⟨_, rfl⟩ (by
              intro w hG hH
              refine opVal_call (by go_simp; first | done | exact ⟨⟨rfl, rfl⟩, rfl⟩) ?_
              refine (stands_any b bx few s' _ (H3.out.1.kb hG (fun x => x)) (H3.out.2.1.kb hG (fun x => x))).mono ?_
              rintro e w' ⟨rfl, hq⟩
              exact ⟨_, rfl, rfl, by first | (obtain ⟨nq, rfl⟩ := hq; exact (KB.refl _ _).drewN _) | (subst hq; exact KB.refl _ _) | exact hq, trivial⟩) ?_
            rintro v rfl
            simp only [Act.put, List.setIfInBounds_toArray, List.set_cons_zero, List.set_cons_succ]
            refine rv_det (by kernel_rfl) rfl (by intro w hG hH; go_simp; first | done | with_reducible rfl) ?_
            simp only [Act.put, List.setIfInBounds_toArray, List.set_cons_zero, List.set_cons_succ]
            refine rv_det (by kernel_rfl) rfl (by intro w hG hH; go_simp; first | done | with_reducible rfl) ?_
            simp only [Act.put, List.setIfInBounds_toArray, List.set_cons_zero, List.set_cons_succ]
            refine rv_det (by kernel_rfl) rfl (by intro w hG hH; go_simp; first | done | with_reducible rfl) ?_
            simp only [Act.put, List.setIfInBounds_toArray, List.set_cons_zero, List.set_cons_succ]
            refine rv_det (by kernel_rfl) rfl (by intro w hG hH; go_simp; first | done | with_reducible rfl) ?_
            simp only [Act.put, List.setIfInBounds_toArray, List.set_cons_zero, List.set_cons_succ]
            refine rv_det (by kernel_rfl) rfl (by intro w hG hH; go_simp; first | done | with_reducible rfl) ?_
            simp only [Act.put, List.setIfInBounds_toArray, List.set_cons_zero, List.set_cons_succ]
            refine rv_rel (by kernel_rfl) rfl ⟨_, rfl⟩ (by
              intro w hG hH
              refine opVal_call (by go_simp; first | done | exact ⟨⟨rfl, rfl⟩, rfl⟩) ?_
              refine (Hsame.out _ (H3.out.1.kb hG (fun x => x)) (H3.out.2.2.1.kb hG (fun x => x))).mono ?_
              rintro e w' ⟨rfl, hq⟩
              exact ⟨_, rfl, rfl, by first | (obtain ⟨nq, rfl⟩ := hq; exact (KB.refl _ _).drewN _) | (subst hq; exact KB.refl _ _) | exact hq, trivial⟩) ?_
            rintro v rfl
            simp only [Act.put, List.setIfInBounds_toArray, List.set_cons_zero, List.set_cons_succ]
            refine rv_det (by kernel_rfl) rfl (by intro w hG hH; go_simp; first | done | with_reducible rfl) ?_
            simp only [Act.put, List.setIfInBounds_toArray, List.set_cons_zero, List.set_cons_succ]
            refine rv_det (by kernel_rfl) rfl (by intro w hG hH; go_simp; first | done | with_reducible rfl) ?_
            simp only [Act.put, List.setIfInBounds_toArray, List.set_cons_zero, List.set_cons_succ]
            refine rv_det (by kernel_rfl) rfl (by intro w hG hH; go_simp; first | done | with_reducible rfl) ?_
            simp only [Act.put, List.setIfInBounds_toArray, List.set_cons_zero, List.set_cons_succ]
            refine rv_det (v := .agg (tcells s').toArray) (by kernel_rfl) rfl (fun w hG hH => exec_load_mid 28 (.tmp 135) rfl bx 0 rfl (tcells s') _ (H3.out.2.1.kb hG (fun x => x)).range Try.underlying28 rfl (by rw [tcells_len]; kernel_rfl)) ?_
            simp only [Act.put, List.setIfInBounds_toArray, List.set_cons_zero, List.set_cons_succ]
            refine rv_det (by kernel_rfl) rfl (by intro w hG hH; go_simp; first | done | with_reducible rfl) ?_
            simp only [Act.put, List.setIfInBounds_toArray, List.set_cons_zero, List.set_cons_succ]
            refine rv_det (v := .agg (tcells s).toArray) (by kernel_rfl) rfl (fun w hG hH => exec_load_mid 28 (.tmp 137) rfl nb 0 rfl (tcells s) _ (H3.out.2.2.2.1.kb hG (fun x => x)).range Try.underlying28 rfl (by rw [tcells_len]; kernel_rfl)) ?_
            simp only [Act.put, List.setIfInBounds_toArray, List.set_cons_zero, List.set_cons_succ]
            refine rv_det (by kernel_rfl) rfl (by intro w hG hH; go_simp; first | done | with_reducible rfl) ?_
            simp only [Act.put, List.setIfInBounds_toArray, List.set_cons_zero, List.set_cons_succ]
            refine rv_det (by kernel_rfl) rfl (by intro w hG hH; go_simp; first | done | with_reducible rfl) ?_
            simp only [Act.put, List.setIfInBounds_toArray, List.set_cons_zero, List.set_cons_succ]
            refine rv_det (by kernel_rfl) rfl (by intro w hG hH; go_simp; first | done | with_reducible rfl) ?_
            simp only [Act.put, List.setIfInBounds_toArray, List.set_cons_zero, List.set_cons_succ]
            refine rv_nil (fun w hG hH => ?_)
            clear hH
            go_wp2_with fail
            go_roundw
            case rel => exact ⟨k + 1, s', by omega, by go_num, H3.out.1.kb hG (fun x => x), H3.out.2.1.kb hG (fun x => x), H3.out.2.2.2.2.trans hG⟩
            case measure => simp [intOf]; omega

          · have t9 : ((k : Int) == (n1 : Int) - 1) = false := by simp; omega
            clear heq
            go_wp2_with fail
            go_roundw
            case rel => exact ⟨k + 1, s', by omega, by go_num, H3.out.1, H3.out.2.1, H3.out.2.2.2.2⟩
            case measure => simp [intOf]; omega

      · have t1 : decide ((0 : Int) ≤ c) = false := by simpa using hpos
        have hpos' : c < 0 := by omega
        obtain ⟨d, hd⟩ : ∃ d, d = -1 - c := ⟨_, rfl⟩
        have hwr : IntKind.i64.wrap (-1 - c) = d := by rw [hd]; exact w64 (by omega) (by omega)
        obtain ⟨p, s', hr⟩ : ∃ p s', s.give d = (p, s') := ⟨_, _, rfl⟩
        obtain ⟨tb, te, htk⟩ : ∃ tb te, s.taken d = (tb, te) := ⟨_, _, rfl⟩
        have h_t := fun wq h => taken_any b s d wq h
        have h_rt := fun wq h => ristaken_any bx s d wq h
        have h_g := fun wq h => give_any b s d wq h
        have h_rg := fun wq h => rgive_any bx s d wq h
        rw [htk] at h_t h_rt
        rw [hr] at h_g h_rg
        dsimp only at h_t h_rt h_g h_rg
        have Ht := Lib.hid h_t
        have Hrt := Lib.hid h_rt
        have Hg := Lib.hid h_g
        have Hrg := Lib.hid h_rg
        clear h_t h_rt h_g h_rg hr htk hd hpos
        go_wp2_with fail
        refine (Ht.out _ H1.out.1).mono ?_
        rintro e _ ⟨rfl, m1, rfl⟩
        go_wp2_with fail
        refine (Hrt.out _ ?hrt).mono ?_
        case hrt => exact H1.out.2.1
        rintro e _ ⟨rfl, m2, rfl⟩
        go_wp2_with fail
        refine (Hg.out _ ?hg).mono ?_
        case hg => exact H1.out.1
        rintro e W2 ⟨rfl, i2, k2'⟩
        have k2 : KB (· = b) W1 W2 := ⟨k2'.os, k2'.tape, k2'.output, k2'.size, k2'.block⟩
        have H2 := Lib.hid (And.intro i2 (And.intro (H1.out.2.1.kb k2 (by omega)) (And.intro (H1.out.2.2.1.kb k2 (by omega)) (And.intro (H1.out.2.2.2.1.kb k2 (by omega)) (H1.out.2.2.2.2.seq k2 (fun j h1 h2 => by omega))))))
        clear i2 k2 k2' hl1
        go_wp2_with fail
        refine (Hrg.out _ H2.out.2.1).mono ?_
        rintro e W3 ⟨rfl, i3, k3⟩
        have H3 := Lib.hid (And.intro (H2.out.1.kb k3 (by omega)) (And.intro i3 (And.intro (H2.out.2.2.1.kb k3 (by omega)) (And.intro (H2.out.2.2.2.1.kb k3 (by omega)) (H2.out.2.2.2.2.seq k3 (fun j h1 h2 => by omega))))))
        clear i3 k3 Ht Hrt Hg Hrg H2 H1
        obtain ⟨q, hq⟩ : ∃ q, q = s'.same s := ⟨_, rfl⟩
        have heq := fun w => taken_eql s' s w
        have hsm := fun w h1 h2 => same_any b cb s' s w h1 h2
        rw [← hq] at heq hsm
        have Hsame := Lib.hid hsm
        clear hq hsm
        have hn1' : (n1 : Int) ≤ 300 := by omega
        have hn1p : (1 : Int) ≤ n1 := by omega
        have hkn : (k : Int) < n1 := by omega
        by_cases hm : (k : Int) % 16 = 0
        · have t8 : ((k : Int) % 16 == 0) = true := by simp [hm]
          clear hm
          go_wp2_with fail
          refine wp_region_rv 28 GK (kindW [(5, fun v => v = .bool true, fun _ _ => True), (12, fun v => v = .bool true, fun _ _ => True), (18, fun v => v = .bool q, fun _ _ => True)]) (by kernel_rfl) (by kernel_rfl) (kb_trans _) (kb_refl _) (kb_start _ _) (kindW_mono _ (by intro p hp; simp only [List.mem_cons, List.not_mem_nil, or_false] at hp; rcases hp with rfl | rfl | rfl <;> exact lasts_true)) ?_
          simp only [List.take_succ_cons, List.take_zero, List.drop_succ_cons, List.drop_zero]
          refine rv_det (by kernel_rfl) rfl (by intro w hG hH; go_simp; first | done | with_reducible rfl) ?_
          simp only [Act.put, List.setIfInBounds_toArray, List.set_cons_zero, List.set_cons_succ]
          refine rv_det (by kernel_rfl) rfl (by intro w hG hH; go_simp; first | done | with_reducible rfl) ?_
          simp only [Act.put, List.setIfInBounds_toArray, List.set_cons_zero, List.set_cons_succ]
          refine rv_det (by kernel_rfl) rfl (by intro w hG hH; go_simp; first | done | with_reducible rfl) ?_
          simp only [Act.put, List.setIfInBounds_toArray, List.set_cons_zero, List.set_cons_succ]
          refine rv_det (by kernel_rfl) rfl (by intro w hG hH; go_simp; first | done | with_reducible rfl) ?_
          simp only [Act.put, List.setIfInBounds_toArray, List.set_cons_zero, List.set_cons_succ]
          refine rv_det (by kernel_rfl) rfl (by intro w hG hH; go_simp; first | done | with_reducible rfl) ?_
          simp only [Act.put, List.setIfInBounds_toArray, List.set_cons_zero, List.set_cons_succ]
          refine rv_rel (by kernel_rfl) rfl ⟨_, rfl⟩ (by
            intro w hG hH
            refine opVal_call (by go_simp; first | done | exact ⟨⟨rfl, rfl⟩, rfl⟩) ?_
            refine (stands_any cb nb few s _ (H3.out.2.2.1.kb hG (fun x => x)) (H3.out.2.2.2.1.kb hG (fun x => x))).mono ?_
            rintro e w' ⟨rfl, hq⟩
            exact ⟨_, rfl, rfl, by first | (obtain ⟨nq, rfl⟩ := hq; exact (KB.refl _ _).drewN _) | (subst hq; exact KB.refl _ _) | exact hq, trivial⟩) ?_
          rintro v rfl
          simp only [Act.put, List.setIfInBounds_toArray, List.set_cons_zero, List.set_cons_succ]
          refine rv_det (by kernel_rfl) rfl (by intro w hG hH; go_simp; first | done | with_reducible rfl) ?_
          simp only [Act.put, List.setIfInBounds_toArray, List.set_cons_zero, List.set_cons_succ]
          refine rv_det (by kernel_rfl) rfl (by intro w hG hH; go_simp; first | done | with_reducible rfl) ?_
          simp only [Act.put, List.setIfInBounds_toArray, List.set_cons_zero, List.set_cons_succ]
          refine rv_det (by kernel_rfl) rfl (by intro w hG hH; go_simp; first | done | with_reducible rfl) ?_
          simp only [Act.put, List.setIfInBounds_toArray, List.set_cons_zero, List.set_cons_succ]
          refine rv_det (by kernel_rfl) rfl (by intro w hG hH; go_simp; first | done | with_reducible rfl) ?_
          simp only [Act.put, List.setIfInBounds_toArray, List.set_cons_zero, List.set_cons_succ]
          refine rv_det (by kernel_rfl) rfl (by intro w hG hH; go_simp; first | done | with_reducible rfl) ?_
          simp only [Act.put, List.setIfInBounds_toArray, List.set_cons_zero, List.set_cons_succ]
          refine rv_det (by kernel_rfl) rfl (by intro w hG hH; go_simp; first | done | with_reducible rfl) ?_
          simp only [Act.put, List.setIfInBounds_toArray, List.set_cons_zero, List.set_cons_succ]
          refine rv_rel (by kernel_rfl) rfl ⟨_, rfl⟩ (by
            intro w hG hH
            refine opVal_call (by go_simp; first | done | exact ⟨⟨rfl, rfl⟩, rfl⟩) ?_
            refine (stands_any b bx few s' _ (H3.out.1.kb hG (fun x => x)) (H3.out.2.1.kb hG (fun x => x))).mono ?_
            rintro e w' ⟨rfl, hq⟩
            exact ⟨_, rfl, rfl, by first | (obtain ⟨nq, rfl⟩ := hq; exact (KB.refl _ _).drewN _) | (subst hq; exact KB.refl _ _) | exact hq, trivial⟩) ?_
          rintro v rfl
          simp only [Act.put, List.setIfInBounds_toArray, List.set_cons_zero, List.set_cons_succ]
          refine rv_det (by kernel_rfl) rfl (by intro w hG hH; go_simp; first | done | with_reducible rfl) ?_
          simp only [Act.put, List.setIfInBounds_toArray, List.set_cons_zero, List.set_cons_succ]
          refine rv_det (by kernel_rfl) rfl (by intro w hG hH; go_simp; first | done | with_reducible rfl) ?_
          simp only [Act.put, List.setIfInBounds_toArray, List.set_cons_zero, List.set_cons_succ]
          refine rv_det (by kernel_rfl) rfl (by intro w hG hH; go_simp; first | done | with_reducible rfl) ?_
          simp only [Act.put, List.setIfInBounds_toArray, List.set_cons_zero, List.set_cons_succ]
          refine rv_det (by kernel_rfl) rfl (by intro w hG hH; go_simp; first | done | with_reducible rfl) ?_
          simp only [Act.put, List.setIfInBounds_toArray, List.set_cons_zero, List.set_cons_succ]
          refine rv_det (by kernel_rfl) rfl (by intro w hG hH; go_simp; first | done | with_reducible rfl) ?_
          simp only [Act.put, List.setIfInBounds_toArray, List.set_cons_zero, List.set_cons_succ]
          refine rv_rel (by kernel_rfl) rfl ⟨_, rfl⟩ (by
            intro w hG hH
            refine opVal_call (by go_simp; first | done | exact ⟨⟨rfl, rfl⟩, rfl⟩) ?_
            refine (Hsame.out _ (H3.out.1.kb hG (fun x => x)) (H3.out.2.2.1.kb hG (fun x => x))).mono ?_
            rintro e w' ⟨rfl, hq⟩
            exact ⟨_, rfl, rfl, by first | (obtain ⟨nq, rfl⟩ := hq; exact (KB.refl _ _).drewN _) | (subst hq; exact KB.refl _ _) | exact hq, trivial⟩) ?_
          rintro v rfl
          simp only [Act.put, List.setIfInBounds_toArray, List.set_cons_zero, List.set_cons_succ]
          refine rv_det (by kernel_rfl) rfl (by intro w hG hH; go_simp; first | done | with_reducible rfl) ?_
          simp only [Act.put, List.setIfInBounds_toArray, List.set_cons_zero, List.set_cons_succ]
          refine rv_det (by kernel_rfl) rfl (by intro w hG hH; go_simp; first | done | with_reducible rfl) ?_
          simp only [Act.put, List.setIfInBounds_toArray, List.set_cons_zero, List.set_cons_succ]
          refine rv_det (by kernel_rfl) rfl (by intro w hG hH; go_simp; first | done | with_reducible rfl) ?_
          simp only [Act.put, List.setIfInBounds_toArray, List.set_cons_zero, List.set_cons_succ]
          refine rv_det (v := .agg (tcells s').toArray) (by kernel_rfl) rfl (fun w hG hH => exec_load_mid 28 (.tmp 135) rfl bx 0 rfl (tcells s') _ (H3.out.2.1.kb hG (fun x => x)).range Try.underlying28 rfl (by rw [tcells_len]; kernel_rfl)) ?_
          simp only [Act.put, List.setIfInBounds_toArray, List.set_cons_zero, List.set_cons_succ]
          refine rv_det (by kernel_rfl) rfl (by intro w hG hH; go_simp; first | done | with_reducible rfl) ?_
          simp only [Act.put, List.setIfInBounds_toArray, List.set_cons_zero, List.set_cons_succ]
          refine rv_det (v := .agg (tcells s).toArray) (by kernel_rfl) rfl (fun w hG hH => exec_load_mid 28 (.tmp 137) rfl nb 0 rfl (tcells s) _ (H3.out.2.2.2.1.kb hG (fun x => x)).range Try.underlying28 rfl (by rw [tcells_len]; kernel_rfl)) ?_
          simp only [Act.put, List.setIfInBounds_toArray, List.set_cons_zero, List.set_cons_succ]
          refine rv_det (by kernel_rfl) rfl (by intro w hG hH; go_simp; first | done | with_reducible rfl) ?_
          simp only [Act.put, List.setIfInBounds_toArray, List.set_cons_zero, List.set_cons_succ]
          refine rv_det (by kernel_rfl) rfl (by intro w hG hH; go_simp; first | done | with_reducible rfl) ?_
          simp only [Act.put, List.setIfInBounds_toArray, List.set_cons_zero, List.set_cons_succ]
          refine rv_det (by kernel_rfl) rfl (by intro w hG hH; go_simp; first | done | with_reducible rfl) ?_
          simp only [Act.put, List.setIfInBounds_toArray, List.set_cons_zero, List.set_cons_succ]
          refine rv_nil (fun w hG hH => ?_)
          clear hH
          go_wp2_with fail
          go_roundw
          case rel => exact ⟨k + 1, s', by omega, by go_num, H3.out.1.kb hG (fun x => x), H3.out.2.1.kb hG (fun x => x), H3.out.2.2.2.2.trans hG⟩
          case measure => simp [intOf]; omega

        · have t8 : ((k : Int) % 16 == 0) = false := by simp [hm]
          clear hm
          by_cases hl : k + 1 = n1
          · have t9 : ((k : Int) == (n1 : Int) - 1) = true := by simp; omega
            go_wp2_with fail
            refine wp_region_rv 28 GK (kindW [(5, fun v => v = .bool true, fun _ _ => True), (12, fun v => v = .bool true, fun _ _ => True), (18, fun v => v = .bool q, fun _ _ => True)]) (by kernel_rfl) (by kernel_rfl) (kb_trans _) (kb_refl _) (kb_start _ _) (kindW_mono _ (by intro p hp; simp only [List.mem_cons, List.not_mem_nil, or_false] at hp; rcases hp with rfl | rfl | rfl <;> exact lasts_true)) ?_
            simp only [List.take_succ_cons, List.take_zero, List.drop_succ_cons, List.drop_zero]
            refine rv_det (by kernel_rfl) rfl (by intro w hG hH; go_simp; first | done | with_reducible rfl) ?_
            simp only [Act.put, List.setIfInBounds_toArray, List.set_cons_zero, List.set_cons_succ]
            refine rv_det (by kernel_rfl) rfl (by intro w hG hH; go_simp; first | done | with_reducible rfl) ?_
            simp only [Act.put, List.setIfInBounds_toArray, List.set_cons_zero, List.set_cons_succ]
            refine rv_det (by kernel_rfl) rfl (by intro w hG hH; go_simp; first | done | with_reducible rfl) ?_
            simp only [Act.put, List.setIfInBounds_toArray, List.set_cons_zero, List.set_cons_succ]
            refine rv_det (by kernel_rfl) rfl (by intro w hG hH; go_simp; first | done | with_reducible rfl) ?_
            simp only [Act.put, List.setIfInBounds_toArray, List.set_cons_zero, List.set_cons_succ]
            refine rv_det (by kernel_rfl) rfl (by intro w hG hH; go_simp; first | done | with_reducible rfl) ?_
            simp only [Act.put, List.setIfInBounds_toArray, List.set_cons_zero, List.set_cons_succ]
            refine rv_rel (by kernel_rfl) rfl ⟨_, rfl⟩ (by
              intro w hG hH
              refine opVal_call (by go_simp; first | done | exact ⟨⟨rfl, rfl⟩, rfl⟩) ?_
              refine (stands_any cb nb few s _ (H3.out.2.2.1.kb hG (fun x => x)) (H3.out.2.2.2.1.kb hG (fun x => x))).mono ?_
              rintro e w' ⟨rfl, hq⟩
              exact ⟨_, rfl, rfl, by first | (obtain ⟨nq, rfl⟩ := hq; exact (KB.refl _ _).drewN _) | (subst hq; exact KB.refl _ _) | exact hq, trivial⟩) ?_
            rintro v rfl
            simp only [Act.put, List.setIfInBounds_toArray, List.set_cons_zero, List.set_cons_succ]
            refine rv_det (by kernel_rfl) rfl (by intro w hG hH; go_simp; first | done | with_reducible rfl) ?_
            simp only [Act.put, List.setIfInBounds_toArray, List.set_cons_zero, List.set_cons_succ]
            refine rv_det (by kernel_rfl) rfl (by intro w hG hH; go_simp; first | done | with_reducible rfl) ?_
            simp only [Act.put, List.setIfInBounds_toArray, List.set_cons_zero, List.set_cons_succ]
            refine rv_det (by kernel_rfl) rfl (by intro w hG hH; go_simp; first | done | with_reducible rfl) ?_
            simp only [Act.put, List.setIfInBounds_toArray, List.set_cons_zero, List.set_cons_succ]
            refine rv_det (by kernel_rfl) rfl (by intro w hG hH; go_simp; first | done | with_reducible rfl) ?_
            simp only [Act.put, List.setIfInBounds_toArray, List.set_cons_zero, List.set_cons_succ]
            refine rv_det (by kernel_rfl) rfl (by intro w hG hH; go_simp; first | done | with_reducible rfl) ?_
            simp only [Act.put, List.setIfInBounds_toArray, List.set_cons_zero, List.set_cons_succ]
            refine rv_det (by kernel_rfl) rfl (by intro w hG hH; go_simp; first | done | with_reducible rfl) ?_
            simp only [Act.put, List.setIfInBounds_toArray, List.set_cons_zero, List.set_cons_succ]
            refine rv_rel (by kernel_rfl) rfl ⟨_, rfl⟩ (by
              intro w hG hH
              refine opVal_call (by go_simp; first | done | exact ⟨⟨rfl, rfl⟩, rfl⟩) ?_
              refine (stands_any b bx few s' _ (H3.out.1.kb hG (fun x => x)) (H3.out.2.1.kb hG (fun x => x))).mono ?_
              rintro e w' ⟨rfl, hq⟩
              exact ⟨_, rfl, rfl, by first | (obtain ⟨nq, rfl⟩ := hq; exact (KB.refl _ _).drewN _) | (subst hq; exact KB.refl _ _) | exact hq, trivial⟩) ?_
            rintro v rfl
            simp only [Act.put, List.setIfInBounds_toArray, List.set_cons_zero, List.set_cons_succ]
            refine rv_det (by kernel_rfl) rfl (by intro w hG hH; go_simp; first | done | with_reducible rfl) ?_
            simp only [Act.put, List.setIfInBounds_toArray, List.set_cons_zero, List.set_cons_succ]
            refine rv_det (by kernel_rfl) rfl (by intro w hG hH; go_simp; first | done | with_reducible rfl) ?_
            simp only [Act.put, List.setIfInBounds_toArray, List.set_cons_zero, List.set_cons_succ]
            refine rv_det (by kernel_rfl) rfl (by intro w hG hH; go_simp; first | done | with_reducible rfl) ?_
            simp only [Act.put, List.setIfInBounds_toArray, List.set_cons_zero, List.set_cons_succ]
            refine rv_det (by kernel_rfl) rfl (by intro w hG hH; go_simp; first | done | with_reducible rfl) ?_
            simp only [Act.put, List.setIfInBounds_toArray, List.set_cons_zero, List.set_cons_succ]
            refine rv_det (by kernel_rfl) rfl (by intro w hG hH; go_simp; first | done | with_reducible rfl) ?_
            simp only [Act.put, List.setIfInBounds_toArray, List.set_cons_zero, List.set_cons_succ]
            refine rv_rel (by kernel_rfl) rfl ⟨_, rfl⟩ (by
              intro w hG hH
              refine opVal_call (by go_simp; first | done | exact ⟨⟨rfl, rfl⟩, rfl⟩) ?_
              refine (Hsame.out _ (H3.out.1.kb hG (fun x => x)) (H3.out.2.2.1.kb hG (fun x => x))).mono ?_
              rintro e w' ⟨rfl, hq⟩
              exact ⟨_, rfl, rfl, by first | (obtain ⟨nq, rfl⟩ := hq; exact (KB.refl _ _).drewN _) | (subst hq; exact KB.refl _ _) | exact hq, trivial⟩) ?_
            rintro v rfl
            simp only [Act.put, List.setIfInBounds_toArray, List.set_cons_zero, List.set_cons_succ]
            refine rv_det (by kernel_rfl) rfl (by intro w hG hH; go_simp; first | done | with_reducible rfl) ?_
            simp only [Act.put, List.setIfInBounds_toArray, List.set_cons_zero, List.set_cons_succ]
            refine rv_det (by kernel_rfl) rfl (by intro w hG hH; go_simp; first | done | with_reducible rfl) ?_
            simp only [Act.put, List.setIfInBounds_toArray, List.set_cons_zero, List.set_cons_succ]
            refine rv_det (by kernel_rfl) rfl (by intro w hG hH; go_simp; first | done | with_reducible rfl) ?_
            simp only [Act.put, List.setIfInBounds_toArray, List.set_cons_zero, List.set_cons_succ]
            refine rv_det (v := .agg (tcells s').toArray) (by kernel_rfl) rfl (fun w hG hH => exec_load_mid 28 (.tmp 135) rfl bx 0 rfl (tcells s') _ (H3.out.2.1.kb hG (fun x => x)).range Try.underlying28 rfl (by rw [tcells_len]; kernel_rfl)) ?_
            simp only [Act.put, List.setIfInBounds_toArray, List.set_cons_zero, List.set_cons_succ]
            refine rv_det (by kernel_rfl) rfl (by intro w hG hH; go_simp; first | done | with_reducible rfl) ?_
            simp only [Act.put, List.setIfInBounds_toArray, List.set_cons_zero, List.set_cons_succ]
            refine rv_det (v := .agg (tcells s).toArray) (by kernel_rfl) rfl (fun w hG hH => exec_load_mid 28 (.tmp 137) rfl nb 0 rfl (tcells s) _ (H3.out.2.2.2.1.kb hG (fun x => x)).range Try.underlying28 rfl (by rw [tcells_len]; kernel_rfl)) ?_
            simp only [Act.put, List.setIfInBounds_toArray, List.set_cons_zero, List.set_cons_succ]
            refine rv_det (by kernel_rfl) rfl (by intro w hG hH; go_simp; first | done | with_reducible rfl) ?_
            simp only [Act.put, List.setIfInBounds_toArray, List.set_cons_zero, List.set_cons_succ]
            refine rv_det (by kernel_rfl) rfl (by intro w hG hH; go_simp; first | done | with_reducible rfl) ?_
            simp only [Act.put, List.setIfInBounds_toArray, List.set_cons_zero, List.set_cons_succ]
            refine rv_det (by kernel_rfl) rfl (by intro w hG hH; go_simp; first | done | with_reducible rfl) ?_
            simp only [Act.put, List.setIfInBounds_toArray, List.set_cons_zero, List.set_cons_succ]
            refine rv_nil (fun w hG hH => ?_)
            clear hH
            go_wp2_with fail
            go_roundw
            case rel => exact ⟨k + 1, s', by omega, by go_num, H3.out.1.kb hG (fun x => x), H3.out.2.1.kb hG (fun x => x), H3.out.2.2.2.2.trans hG⟩
            case measure => simp [intOf]; omega

          · have t9 : ((k : Int) == (n1 : Int) - 1) = false := by simp; omega
            clear heq
            go_wp2_with fail
            go_roundw
            case rel => exact ⟨k + 1, s', by omega, by go_num, H3.out.1, H3.out.2.1, H3.out.2.2.2.2⟩
            case measure => simp [intOf]; omega
    · obtain rfl : k = n1 := by omega
      go_wp2_with fail
      refine (stands_any b bx few s _ HR.out.1 HR.out.2.1).mono ?_
      rintro e w' ⟨rfl, hk'⟩
      go_wp2_with fail
      refine (awake_any _).mono ?_
      rintro e w'' ⟨rfl, hk''⟩
      go_wp2
      go_ret
      exact ⟨rfl, (HR.out.2.2.trans hk').trans hk''⟩

theorem heapRuns_any (a1 : Option Addr) (xs1 : List Int) (c1 : Nat) (few : Int) (w : World)
    (hx1 : IntsAt w a1 xs1) (hr1 : ∀ x ∈ xs1, -9223372036854775808 ≤ x ∧ x < 9223372036854775808) :
    Calls Try.prog 3 #[.slice a1 xs1.length c1, .int .i64 few] w (lawPost w) := by
  by_cases h : 300 < xs1.length
  · exact runs_long a1 _ c1 few w h
  · exact runs_short a1 xs1 c1 few w (by omega) hx1 hr1

set_option maxRecDepth 100000 in
theorem heapRuns_lifted (os : Os) (started : os.Started) (H : Type) (enc : TypeId × Value → H) :
    ReturnsInHanded {} Try.checked os 3 .any (Rows.heapRunsSpec.pre6 enc Try.prog Try.f3 Rows.heapRunsRow.domain false) (Rows.heapRunsSpec.post enc Try.prog Try.f3 false true false false) := by
  refine returnsInHanded_of_change (C := Try.checked) Try.own started (by kernel_rfl) Try.func3
    (ChangeSpec.witness6 (enc := enc) (C := Try.checked) false ⟨#[], #[.slice none 0 0, .int .i64 0], []⟩ 8 (by kernel_rfl) (by kernel_rfl) (by kernel_rfl) (by kernel_rfl)) ?_
  intro W base args ds gs before hval0 hW hcnd _
  have hval : ∀ (j : Nat) t v, Try.f3.params[j]? = some t → args[j]? = some v → Value.okWide Try.prog W .any base t v := hval0
  have hW' := hW
  obtain ⟨p, q, hA0, hV, rfl, hfz, hnd⟩ := hW
  have hA : DataW.TrodAll enc Try.prog W 0 (fun _ => true) true Try.f3.params.toList args.toList ds p := hA0
  rw [Try.params3] at hA hval
  obtain ⟨v0, v1, d0, d1, p0, p1, rfl, rfl, rfl, h0, h1⟩ := trodAll_two hA
  obtain ⟨rfl, rfl⟩ := trodVars_none hV
  clear hA0 hval0
  simp only [List.append_nil] at hW'
  have hlt : ∀ x ∈ p0 ++ p1, x.block < W.heap.size := fun x hx => by simpa using hW'.lt x (by simpa using hx)
  obtain ⟨a1, xs1, c1, rfl, hx1, hr1⟩ := arg_ints (hval 0 22 v0 rfl rfl) h0
  obtain ⟨few, rfl, rfl, rfl, wf⟩ := open_int Try.underlying3 (hval 1 3 v1 rfl rfl) h1
  refine (heapRuns_any a1 xs1 c1 few W hx1 hr1).mono fun e W' ⟨he, hk⟩ => ?_
  subst he
  have hb : Below W.heap.size W W' := hk.below (Nat.le_refl _) (fun _ _ x => x)
  have ha : ∀ {v d ps}, DataW.Trod enc Try.prog W 0 (fun _ => true) true 22 v d ps → (∀ x ∈ ps, x.block < W.heap.size) → DataW.Trod enc Try.prog W' 0 (fun b => decide (b < W.heap.size)) true 22 v d ps :=
    fun h hl => Below.trod Try.laidOut (by kernel_rfl) (of_decide_eq_true (by kernel_rfl)) h hb hl
  refine ⟨_, rfl, _, _, _, [], p0 ++ [], [], hW', ?_, ?_, rfl, hb.frame _, fun h => by cases h⟩
  · exact trodAll_mk1 (shut_bool (by kernel_rfl) true)
  · exact trodAll_mk2 (ha h0 (fun x hx => hlt x (by simp [hx]))) (shut_int Try.underlying3 wf)

theorem heapRuns_holds : Rows.HeapRunsSaid :=
  OpenClaim.holds_of_wide 3 Try.f3 rfl rfl rfl rfl rfl rfl rfl ⟨rfl, rfl, rfl, rfl, rfl⟩ rfl rfl rfl rfl rfl (by kernel_rfl) Try.func3 (by kernel_rfl)
    (of_decide_eq_true (by kernel_rfl)) (by unfold Func.isWrapper; rw [if_neg (of_decide_eq_false (by kernel_rfl))]; exact ⟨rfl, rfl⟩)
    (fun os started H enc _ => heapRuns_lifted os started H enc)
end Go.Proofs.Ytnfoabccbkedgaa

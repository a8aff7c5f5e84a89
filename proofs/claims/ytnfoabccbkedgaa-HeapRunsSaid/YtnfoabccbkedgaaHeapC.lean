/- The walks of arena.count and Heap.Take. -/
import Derived.Test.YtnfoabccbkedgaaHeapB
import Derived.Test.YtnfoabccbkedgaaRegionB
namespace Go.Proofs.Ytnfoabccbkedgaa
open Go.RowKit

set_option maxHeartbeats 400000 in
theorem count_any (b o : Nat) (f : Nat → Bool) (w : World) (hb : w.cell? ⟨b, o, none⟩ = some (.int .u16 (mk f))) :
    Calls Try.prog 27 #[.pointer (some ⟨b,o,none⟩)] w fun e w' => e = .returned (.int .i64 (cnt f : Nat)) ∧ ∃ n, w' = w.drewN n := by
  have hl := msk_lt f 12
  have hp := popc_msk f
  have hw : IntKind.u32.wrap (mk f) = ((msk f 12 : Nat) : Int) := by
    unfold mk; simp only [IntKind.wrap, IntKind.bits, IntKind.signed]; simp; omega
  have hpp := Lib.hid hp; clear hp
  go_enter Try.func27, Try.ntmps27
  go_wp2_with fail
  refine (ones_any _ (by omega) _).mono ?_
  rintro e w' ⟨rfl, n, rfl⟩
  go_wp2
  go_ret
  exact ⟨ret_int (by rw [hpp.out]), n, rfl⟩

theorem IH.cell {w : World} {b : Nat} {s : HS} (h : IH w b s) (o : Nat) : w.cell? ⟨b, o, none⟩ = (hcells s)[o]? := by
  simp [World.cell?, h.1]
theorem IH.frozen {w : World} {b : Nat} {s : HS} (h : IH w b s) (o : Nat) : w.frozen? ⟨b, o, none⟩ = false := by
  simp [World.frozen?, h.1]
theorem IH.c0 {w : World} {b : Nat} {s : HS} (h : IH w b s) : w.cell? ⟨b, 0, none⟩ = some (.bool true) := h.cell 0
theorem IH.drew {w : World} {b : Nat} {s : HS} (h : IH w b s) : IH w.drew b s := h
theorem IH.kb {S : Nat → Prop} {w w' : World} {b : Nat} {s : HS} (h : IH w b s) (hk : KB S w w') (hb : ¬ S b) : IH w' b s := ⟨hk.heap hb h.1, h.2⟩
theorem setCell_heap {w : World} {b o : Nat} {v : Value} {c : Array Value} {t : TypeId} {fz : Nat × Nat} (h : w.heap[b]? = some (.cells c t fz)) :
    (w.setCell ⟨b, o, none⟩ v).heap[b]? = some (.cells (c.setIfInBounds o v) t fz) := by
  simp [World.setCell, Array.getElem?_modify, h]
theorem IH.setT {w : World} {b : Nat} {s : HS} (h : IH w b s) {c : Nat} (hc : c < 5) (f : Nat → Bool) :
    IH (w.setCell ⟨b, 1 + 2 * c, none⟩ (.int .u16 (mk f))) b ⟨upc s.T c f, s.M⟩ := by
  refine ⟨?_, h.2⟩
  rw [setCell_heap h.1]
  obtain rfl | rfl | rfl | rfl | rfl : c = 0 ∨ c = 1 ∨ c = 2 ∨ c = 3 ∨ c = 4 := by omega
  all_goals rfl
theorem IH.setM {w : World} {b : Nat} {s : HS} (h : IH w b s) {c : Nat} (hc : c < 5) (m : Nat) (hm : m ≤ 12) :
    IH (w.setCell ⟨b, 2 + 2 * c, none⟩ (.int .i64 m)) b ⟨s.T, upc s.M c m⟩ := by
  refine ⟨?_, fun k hk => by simp only [upc]; split; exact hm; exact h.2 k hk⟩
  rw [setCell_heap h.1]
  obtain rfl | rfl | rfl | rfl | rfl : c = 0 ∨ c = 1 ∨ c = 2 ∨ c = 3 ∨ c = 4 := by omega
  all_goals rfl

theorem kb_set (w : World) (b o : Nat) (v : Value) : KB (· = b) w (w.setCell ⟨b, o, none⟩ v) := (KB.refl (· = b) w).setCell (p := ⟨b, o, none⟩) (fun _ => rfl) v
theorem max_int (a b : Nat) : (if (a : Int) < (b : Int) then (b : Int) else a) = (max a b : Nat) := by
  split <;> omega

set_option maxHeartbeats 1000000 in
theorem take_some (b : Nat) (s : HS) (c : Nat) (hc : c < 5) (i : Nat) (w : World) (h : IH w b s) (hf : ffree (s.T c) = some i) :
    Calls Try.prog 9 #[.pointer (some ⟨b,0,none⟩), .int .i64 c] w fun e w' =>
      e = .returned (.tuple #[.int .i64 (hb c + i * 2 ^ c : Nat), .int .i64 0]) ∧ IH w' b (s.mark c i) ∧ KB (· = b) w w' := by
  obtain ⟨f, hf0⟩ : ∃ f, f = s.T c := ⟨_, rfl⟩
  obtain ⟨g, hg0⟩ : ∃ g, g = up f i true := ⟨_, rfl⟩
  obtain ⟨m, hm0⟩ : ∃ m, m = max (s.M c) (cnt g) := ⟨_, rfl⟩
  obtain ⟨m0, hm1⟩ : ∃ m, m = s.M c := ⟨_, rfl⟩
  rw [← hf0] at hf
  have hr : freeRes f = .tuple #[.int .i64 (i : Nat), .bool true] := by unfold freeRes; rw [hf]
  have hi := (ffree_some hf).1
  have hor := mk_or f i hi
  rw [← hg0] at hor
  have hpw : IntKind.u16.wrap ((2 : Int) ^ i) = 2 ^ i := by
    have := wrap_u16 (2 ^ i) (Nat.lt_of_lt_of_le (Nat.pow_lt_pow_right (by omega) hi) (by decide))
    rwa [show ((2 ^ i : Nat) : Int) = 2 ^ i by push_cast; rfl] at this
  have hM := h.2 c hc
  have hcn := cnt_le g
  obtain ⟨W, hW⟩ : ∃ W, W = w.setCell ⟨b, 1 + 2 * c, none⟩ (.int .u16 (mk g)) := ⟨_, rfl⟩
  have h1 := h.setT hc g
  have kW := kb_set w b (1 + 2 * c) (.int .u16 (mk g))
  rw [← hW] at h1 kW
  have h2 := h1.setM hc m (by omega)
  have hmark : (⟨upc s.T c g, upc s.M c m⟩ : HS) = s.mark c i := by subst hm0 hg0 hf0; rfl
  obtain ⟨W2, hW2⟩ : ∃ W2, W2 = W.setCell ⟨b, 2 + 2 * c, none⟩ (.int .i64 m) := ⟨_, rfl⟩
  have kW2 := kb_set W b (2 + 2 * c) (.int .i64 m)
  rw [← hW2, hmark] at h2
  rw [← hW2] at kW2
  have hfin : Hid (IH W2 b (s.mark c i) ∧ KB (· = b) w W2) := Lib.hid ⟨h2, kW.trans kW2⟩
  have HW2 := Lib.hid hW2
  obtain ⟨B, hB⟩ : ∃ B, B = hb c := ⟨_, rfl⟩
  have hbl : (B : Int) ≤ 181 := by
    rw [hB]
    obtain rfl | rfl | rfl | rfl | rfl : c = 0 ∨ c = 1 ∨ c = 2 ∨ c = 3 ∨ c = 4 := by omega
    all_goals decide
  have hbase := fun w => base_any c (by omega) w
  rw [← hB] at hbase ⊢
  have Hbase := Lib.hid hbase
  have HW := Lib.hid hW
  have c0 := h.c0
  have cT : w.cell? ⟨b, 1 + 2 * c, none⟩ = some (.int .u16 (mk f)) := by
    rw [h.cell, hf0]
    obtain rfl | rfl | rfl | rfl | rfl : c = 0 ∨ c = 1 ∨ c = 2 ∨ c = 3 ∨ c = 4 := by omega
    all_goals rfl
  have cT' : W.cell? ⟨b, 1 + 2 * c, none⟩ = some (.int .u16 (mk g)) := by
    rw [h1.cell]
    obtain rfl | rfl | rfl | rfl | rfl : c = 0 ∨ c = 1 ∨ c = 2 ∨ c = 3 ∨ c = 4 := by omega
    all_goals rfl
  have cM : W.cell? ⟨b, 2 + 2 * c, none⟩ = some (.int .i64 m0) := by
    rw [h1.cell, hm1]
    obtain rfl | rfl | rfl | rfl | rfl : c = 0 ∨ c = 1 ∨ c = 2 ∨ c = 3 ∨ c = 4 := by omega
    all_goals rfl
  have fz := h.frozen
  have fz' := h1.frozen
  have hmx : (if (m0 : Int) < (cnt g : Int) then (cnt g : Int) else m0) = m := by rw [max_int, hm0, hm1]
  have hmx2 : (if m0 < cnt g then (cnt g : Int) else m0) = m := by rw [← hmx]; simp
  have hr' := Lib.hid hr
  clear h1 h2 hmark h hf hW hr hf0 hg0 hm0 hm1 kW kW2 hW2 hbase hB
  obtain rfl | rfl | rfl | rfl | rfl : c = 0 ∨ c = 1 ∨ c = 2 ∨ c = 3 ∨ c = 4 := by omega
  all_goals
    simp only [Nat.reduceMul, Nat.reduceAdd] at cT cM cT' HW HW2
    go_enter Try.func9, Try.ntmps9
    go_wp2_with fail
    refine (is_any _ true _ (by assumption)).mono ?_
    rintro e w' ⟨rfl, rfl⟩
    go_wp2_with fail
    refine (free_any _ _ f _ (by assumption)).mono ?_
    rintro e w' ⟨rfl, rfl⟩
    rw [hr'.out]
    go_wp2_with fail
    go_region
    clear hor hpw cT c0 fz
    rw [← HW.out]
    go_wp2_with fail
    refine wp_region_text 10 GQ (kindV [(6, fun v => v = .int .i64 (cnt g : Nat))]) (by kernel_rfl) (by kernel_rfl) GQ.trans GQ.refl (GQ.start _) (kindV_mono _) ?_
    simp only [List.take_succ_cons, List.take_zero, List.drop_succ_cons, List.drop_zero]
    repeat (first | (refine rvc_det rfl rfl (by intro w hG hH; obtain ⟨n, rfl⟩ := hG; go_simp; first | done | with_reducible rfl) ?_; simp only [Act.put, List.setIfInBounds_toArray, List.set_cons_zero, List.set_cons_succ]) | (refine rvc_skip rfl ?_; simp only [Act.put, List.setIfInBounds_toArray, List.set_cons_zero, List.set_cons_succ]))
    refine rvc_rel rfl rfl ⟨_, rfl⟩ (by
      intro w hG hH; obtain ⟨n, rfl⟩ := hG
      refine opVal_call (by go_simp; first | done | exact ⟨⟨rfl, rfl⟩, rfl⟩) ?_
      refine (count_any _ _ g _ (by go_simp)).mono ?_
      rintro e w' ⟨rfl, hq⟩
      exact ⟨_, rfl, rfl, by (first | (obtain ⟨nq, rfl⟩ := hq) | subst hq); (try simp only [drew_eq1, drewN_drewN]); first | exact ⟨0, rfl⟩ | exact ⟨_, rfl⟩ | exact gq_le (by omega), trivial⟩) ?_
    rintro v rfl
    simp only [Act.put, List.setIfInBounds_toArray, List.set_cons_zero, List.set_cons_succ]
    repeat (first | (refine rvc_det rfl rfl (by intro w hG hH; obtain ⟨n, rfl⟩ := hG; go_simp; first | done | with_reducible rfl) ?_; simp only [Act.put, List.setIfInBounds_toArray, List.set_cons_zero, List.set_cons_succ]) | (refine rvc_skip rfl ?_; simp only [Act.put, List.setIfInBounds_toArray, List.set_cons_zero, List.set_cons_succ]))
    refine rvc_nil (fun w hG hH => ?_)
    obtain ⟨n, rfl⟩ := hG
    clear hH
    go_wp2_with fail
    rw [setCell_drewN, ← HW2.out]
    clear HW HW2 cT' cM fz' hmx hmx2
    refine wp_region_text 6 GQ (kindV [(1, fun v => v = .int .i64 (B : Nat))]) (by kernel_rfl) (by kernel_rfl) GQ.trans GQ.refl (GQ.start _) (kindV_mono _) ?_
    simp only [List.take_succ_cons, List.take_zero, List.drop_succ_cons, List.drop_zero]
    repeat (first | (refine rvc_det rfl rfl (by intro w hG hH; obtain ⟨n, rfl⟩ := hG; go_simp; first | done | with_reducible rfl) ?_; simp only [Act.put, List.setIfInBounds_toArray, List.set_cons_zero, List.set_cons_succ]) | (refine rvc_skip rfl ?_; simp only [Act.put, List.setIfInBounds_toArray, List.set_cons_zero, List.set_cons_succ]))
    refine rvc_rel rfl rfl ⟨_, rfl⟩ (by
      intro w hG hH; obtain ⟨n, rfl⟩ := hG
      refine opVal_call (by go_simp; first | done | exact ⟨⟨rfl, rfl⟩, rfl⟩) ?_
      refine (Hbase.out _).mono ?_
      rintro e w' ⟨rfl, hq⟩
      exact ⟨_, rfl, rfl, by (first | (obtain ⟨nq, rfl⟩ := hq) | subst hq); (try simp only [drew_eq1, drewN_drewN]); first | exact ⟨0, rfl⟩ | exact ⟨_, rfl⟩ | exact gq_le (by omega), trivial⟩) ?_
    rintro v rfl
    simp only [Act.put, List.setIfInBounds_toArray, List.set_cons_zero, List.set_cons_succ]
    repeat (first | (refine rvc_det rfl rfl (by intro w hG hH; obtain ⟨n, rfl⟩ := hG; go_simp; first | done | with_reducible rfl) ?_; simp only [Act.put, List.setIfInBounds_toArray, List.set_cons_zero, List.set_cons_succ]) | (refine rvc_skip rfl ?_; simp only [Act.put, List.setIfInBounds_toArray, List.set_cons_zero, List.set_cons_succ]))
    refine rvc_nil (fun w hG hH => ?_)
    obtain ⟨n, rfl⟩ := hG
    clear hH
    go_wp2
    go_ret2
    refine ⟨ret_eq (tup2 (vint ?_) rfl), hfin.out.1, (hfin.out.2.drewN _).drewN _⟩
    simp only [wrap_i64]; omega

end Go.Proofs.Ytnfoabccbkedgaa

/- print.Lines. -/
import Derived.Test.YtoophdcagpfmpaaGreatDoorMg26
namespace Go.Proofs.YtoophdcagpfmpaaGreatDoor
open Go.RowKit

def lnG (L : List ByteArray) : Nat → ByteArray := fun i => L.getD i ByteArray.empty
theorem strsK_list (L : List ByteArray) : strsK (lnG L) L.length = L.map Value.string := by
  unfold strsK lnG
  apply List.ext_getElem?
  intro i
  by_cases h : i < L.length
  · rw [List.getElem?_map, List.getElem?_range h, List.getElem?_map, List.getElem?_eq_getElem h]
    simp [List.getD_eq_getElem?_getD, h]
  · rw [List.getElem?_eq_none (by simp; omega), List.getElem?_eq_none (by simp; omega)]
/-- The lines' text: a byte 10 behind each. -/
def lnT (L : List ByteArray) : ByteArray := if L.length = 0 then jnK ⟨#[10]⟩ (lnG L) L.length ++ ByteArray.empty else jnK ⟨#[10]⟩ (lnG L) L.length ++ ⟨#[10]⟩
theorem jn10_size (L : List ByteArray) : ∀ k, k ≤ L.length → (jnK ⟨#[10]⟩ (lnG L) k).size + (if k = 0 then 0 else 1) = szL (L.take k) := by
  intro k
  induction k with
  | zero => intro _; rfl
  | succ k ih =>
    intro hk
    have h1 := ih (by omega)
    rw [take_getD (d := ByteArray.empty) (by omega), szL_app, szL_one, ← h1, if_neg (by omega)]
    by_cases h0 : k = 0
    · subst h0
      show (L.getD 0 ByteArray.empty).size + 1 = 0 + 0 + ((L.getD 0 ByteArray.empty).size + 1)
      omega
    · rw [show jnK ⟨#[10]⟩ (lnG L) (k + 1) = jnK ⟨#[10]⟩ (lnG L) k ++ ⟨#[10]⟩ ++ lnG L k from if_neg h0, if_neg h0, ByteArray.size_append, ByteArray.size_append]
      show _ + 1 + (L.getD k ByteArray.empty).size + 1 = _ + 1 + ((L.getD k ByteArray.empty).size + 1)
      omega
theorem lnT_size (L : List ByteArray) : (lnT L).size = szL L := by
  have h := jn10_size L L.length (Nat.le_refl _)
  rw [List.take_length] at h
  unfold lnT
  split
  · rename_i h0
    rw [if_pos h0] at h
    rw [ByteArray.size_append]
    have : ByteArray.empty.size = 0 := rfl
    omega
  · rename_i h0
    rw [if_neg h0] at h
    rw [ByteArray.size_append]
    have : (⟨#[10]⟩ : ByteArray).size = 1 := rfl
    omega
/-- The lines, and the cell that holds them. -/
def LsAt (w0 W2 : World) (X : Nat) (L : List ByteArray) (w' : World) : Prop := ∃ v, w'.heap[X]? = some (.cells #[v] 33 (0, 0)) ∧ w'.ownsRow w0.heap.size 9 1 v L.length (L.map Value.string) ∧ KB (fun k => k = X) W2 w'
theorem rep10 (c : Nat) (hc : c ≤ 1) (w : World) : TxtCall 53 #[.string ⟨#[10]⟩, .int .i64 c] w (if c = 0 then ByteArray.empty else ⟨#[10]⟩) := by
  have h := Tryz.strings_Repeat ⟨#[10]⟩ c w (by omega) (by show 1 * c ≤ _; omega)
  refine h.mono fun e w' ⟨h1, h2⟩ => ⟨?_, KB.of_below h2⟩
  rw [h1]
  obtain rfl | rfl : c = 0 ∨ c = 1 := by omega
  · rfl
  · rfl
set_option maxRecDepth 100000 in
set_option maxHeartbeats 8000000 in
theorem plines2_any (ts : List Nd) (h : TOk ts) (hok : ∀ x ∈ ts, NdOk x) (a : Option Addr) (cap X : Nat) (w : World) (hts : NodesAt w a ts) (hT : PT w) (hr : rootOk (ts.getD 0 nd0).k = true) (hX : w.heap[X]? = some (.cells #[.slice none 0 0] 33 (0, 0))) :
    Calls Tryz.prog 51 #[.slice a ts.length cap, .pointer (some ⟨X, 0, none⟩)] w fun e w' => e = .returned (.string (lnT (linesN ts))) ∧ LsAt w w X (linesN ts) w' := by
  obtain ⟨w0, rfl⟩ : ∃ w0, w0 = w := ⟨_, rfl⟩
  have hll := lines_len h
  have hlz := lines_size h hok
  have hlen := h.len
  have LN := Lib.hid (lines_any ts h hok a cap w0 hts hT hr)
  have hsz := lnT_size (linesN ts)
  have hjz := jn10_size (linesN ts) (linesN ts).length (Nat.le_refl _)
  rw [List.take_length] at hjz
  have hsk := strsK_list (linesN ts)
  have hlt : lnT (linesN ts) = if (linesN ts).length = 0 then jnK ⟨#[10]⟩ (lnG (linesN ts)) (linesN ts).length ++ ByteArray.empty else jnK ⟨#[10]⟩ (lnG (linesN ts)) (linesN ts).length ++ ⟨#[10]⟩ := rfl
  generalize linesN ts = L at *
  have JO := Lib.hid (fun (B : Nat) (v : Value) (W : World) (hown : W.ownsRow B 9 1 v L.length (L.map Value.string)) => join_own B v (lnG L) L.length ⟨#[10]⟩ W (by rw [hsk]; exact hown) (by omega) (by split at hjz <;> omega))
  have hJz : (jnK ⟨#[10]⟩ (lnG L) L.length).size ≤ 100000000000 := by split at hjz <;> omega
  generalize jnK ⟨#[10]⟩ (lnG L) L.length = J at JO hlt hJz
  generalize lnT L = T at hlt ⊢
  generalize ts.length = N at LN ⊢
  have z1 : ¬ (9223372036854775807 < J.size) := by omega
  have z2 : ¬ (9223372036854775807 < J.size + 1) := by omega
  have hXlt := heap_lt hX
  have HX := Lib.hid (And.intro hX hXlt)
  have c0 := blk_cell hX 0
  have f0 := blk_frozen hX 0
  have HT := Lib.hid hlt
  clear hX hts hT hr hok h hll hlz hlen hsz hjz hsk hlt hXlt hJz
  go_enter Tryz.func51, Tryz.ntmps51
  go_wp2_with fail
  refine LN.out.mono ?_
  rintro e w2 ⟨v, rfl, hown, k2⟩
  obtain ⟨va, vc, rfl, -, -, -, -⟩ := own_shape hown
  have hX2 := k2.heap (fun x => x) HX.out.1
  have f2 := blk_frozen hX2 0
  have c2 := blk_cell hX2 0
  obtain ⟨W3, hW3⟩ : ∃ W3, W3 = w2.setCell ⟨X, 0, none⟩ (.slice va L.length vc) := ⟨_, rfl⟩
  have hb3 : W3.heap[X]? = some (.cells #[.slice va L.length vc] 33 (0, 0)) := by rw [hW3]; exact setCell_blk (i := 0) hX2 _
  have hown3 : W3.ownsRow w0.heap.size 9 1 (.slice va L.length vc) L.length (L.map Value.string) := by
    rw [hW3]
    exact own_kb hown (kb_set w2 X 0 _) (fun g e => by have := (hown.lt g e).1; have := HX.out.2; omega)
  have k3 : KB (fun k => k = X) w0 W3 := by rw [hW3]; exact KB.setCell (S := fun k => k = X) (k2.mono (fun _ _ x => x.elim)) (p := ⟨X, 0, none⟩) (fun _ => rfl) _
  have HW := Lib.hid hW3
  have H3 := Lib.hid (And.intro hb3 (And.intro hown3 k3))
  clear hown k2 hX2 hb3 hown3 k3 LN c0 f0
  have e0 : W3.cell? ⟨X, 0, none⟩ = some (.slice va L.length vc) := blk_cell H3.out.1 0
  have hmn : L.length = 0 ∨ 0 < L.length := by omega
  have HMN := Lib.hid hmn
  have RP0 := Lib.hid (fun (W : World) => rep10 0 (by omega) W)
  have RP1 := Lib.hid (fun (W : World) => rep10 1 (by omega) W)
  unfold TxtCall at RP0 RP1
  clear hW3 hmn
  generalize hn : L.length = n at *
  have HNN := Lib.hid hn
  clear hn
  rcases HMN.out with h0 | h0
  · obtain rfl := h0
    have hE : J ++ ByteArray.empty = T := by rw [HT.out, if_pos rfl]
    go_wp2_with fail
    rw [← HW.out]
    have JO2 := Lib.hid (fun (W : World) (hk : KB F0 W3 W) => JO.out w0.heap.size _ W (own_kb H3.out.2.1 hk (fun _ _ x => x)))
    refine wp_region_rv 8 GK (kindW [(1, (fun v => v = .string J), (fun _ _ => True)), (5, (fun v => v = .string ByteArray.empty), (fun _ _ => True))]) (by kernel_rfl) (by kernel_rfl) (kb_trans _) (kb_refl _) (kb_start _ _) (kindW_mono _ (by intro p hp; simp only [List.mem_cons, List.not_mem_nil, or_false] at hp; (rcases hp with rfl | rfl <;> exact lasts_true))) ?_
    simp only [List.take_succ_cons, List.take_zero, List.drop_succ_cons, List.drop_zero]
    refine rv_det (by kernel_rfl) rfl (by intro w hG hH; have hc0 := KB.cell hG (fun x => x) (e0); go_simp; first | done | with_reducible rfl) ?_
    simp only [Act.put, List.setIfInBounds_toArray, List.set_cons_zero, List.set_cons_succ]
    refine rv_rel (by kernel_rfl) rfl ⟨_, rfl⟩ (by
      intro w hG hH
      refine opVal_call (by go_simp; first | done | exact ⟨⟨rfl, rfl⟩, rfl⟩) ?_
      refine (JO2.out _ hG).mono ?_
      rintro e w' ⟨rfl, hq⟩
      exact ⟨_, rfl, rfl, by first | (obtain ⟨nq, rfl⟩ := hq; exact (KB.refl _ _).drewN _) | (subst hq; exact KB.refl _ _) | exact hq, trivial⟩) ?_
    rintro v rfl
    simp only [Act.put, List.setIfInBounds_toArray, List.set_cons_zero, List.set_cons_succ]
    iterate 3 (refine rv_det (by kernel_rfl) rfl (by intro w hG hH; have hc0 := KB.cell hG (fun x => x) (e0); go_simp; first | done | with_reducible rfl) ?_; simp only [Act.put, List.setIfInBounds_toArray, List.set_cons_zero, List.set_cons_succ])
    refine rv_rel (by kernel_rfl) rfl ⟨_, rfl⟩ (by
      intro w hG hH
      refine opVal_call (by go_simp; first | done | exact ⟨⟨rfl, rfl⟩, rfl⟩) ?_
      refine (RP0.out _).mono ?_
      rintro e w' ⟨rfl, hq⟩
      exact ⟨_, rfl, rfl, by first | (obtain ⟨nq, rfl⟩ := hq; exact (KB.refl _ _).drewN _) | (subst hq; exact KB.refl _ _) | exact hq, trivial⟩) ?_
    rintro v rfl
    simp only [Act.put, List.setIfInBounds_toArray, List.set_cons_zero, List.set_cons_succ]
    iterate 2 (refine rv_det (by kernel_rfl) rfl (by intro w hG hH; go_simp; first | done | with_reducible rfl) ?_; simp only [Act.put, List.setIfInBounds_toArray, List.set_cons_zero, List.set_cons_succ])
    refine rv_nil (fun w hG hH => ?_)
    have hb4 := hG.heap (fun x => x) H3.out.1
    have ho4 := own_kb H3.out.2.1 hG (fun _ _ x => x)
    have k4 : KB (fun k => k = X) w0 w := H3.out.2.2.trans (hG.mono (fun _ _ x => x.elim))
    have H4 := Lib.hid (And.intro hb4 (And.intro ho4 k4))
    clear hb4 ho4 k4 hG hH e0
    go_wp2_with fail
    go_ret
    refine ⟨rfl, _, H4.out.1, ?_, H4.out.2.2⟩
    rw [HNN.out]
    exact H4.out.2.1
  · have hE : J ++ ⟨#[10]⟩ = T := by rw [HT.out, if_neg (by omega)]
    have h1n : (1 : Int) ≤ (n : Int) := by omega
    have hmin : min (1 : Int) (n : Int) = 1 := by omega
    go_wp2_with fail
    rw [← HW.out]
    have JO2 := Lib.hid (fun (W : World) (hk : KB F0 W3 W) => JO.out w0.heap.size _ W (own_kb H3.out.2.1 hk (fun _ _ x => x)))
    refine wp_region_rv 8 GK (kindW [(1, (fun v => v = .string J), (fun _ _ => True)), (5, (fun v => v = .string ⟨#[10]⟩), (fun _ _ => True))]) (by kernel_rfl) (by kernel_rfl) (kb_trans _) (kb_refl _) (kb_start _ _) (kindW_mono _ (by intro p hp; simp only [List.mem_cons, List.not_mem_nil, or_false] at hp; (rcases hp with rfl | rfl <;> exact lasts_true))) ?_
    simp only [List.take_succ_cons, List.take_zero, List.drop_succ_cons, List.drop_zero]
    refine rv_det (by kernel_rfl) rfl (by intro w hG hH; have hc0 := KB.cell hG (fun x => x) (e0); go_simp; first | done | with_reducible rfl) ?_
    simp only [Act.put, List.setIfInBounds_toArray, List.set_cons_zero, List.set_cons_succ]
    refine rv_rel (by kernel_rfl) rfl ⟨_, rfl⟩ (by
      intro w hG hH
      refine opVal_call (by go_simp; first | done | exact ⟨⟨rfl, rfl⟩, rfl⟩) ?_
      refine (JO2.out _ hG).mono ?_
      rintro e w' ⟨rfl, hq⟩
      exact ⟨_, rfl, rfl, by first | (obtain ⟨nq, rfl⟩ := hq; exact (KB.refl _ _).drewN _) | (subst hq; exact KB.refl _ _) | exact hq, trivial⟩) ?_
    rintro v rfl
    simp only [Act.put, List.setIfInBounds_toArray, List.set_cons_zero, List.set_cons_succ]
    iterate 3 (refine rv_det (by kernel_rfl) rfl (by intro w hG hH; have hc0 := KB.cell hG (fun x => x) (e0); go_simp; first | done | with_reducible rfl) ?_; simp only [Act.put, List.setIfInBounds_toArray, List.set_cons_zero, List.set_cons_succ])
    refine rv_rel (by kernel_rfl) rfl ⟨_, rfl⟩ (by
      intro w hG hH
      refine opVal_call (by go_simp; first | done | exact ⟨⟨rfl, rfl⟩, rfl⟩) ?_
      refine (RP1.out _).mono ?_
      rintro e w' ⟨rfl, hq⟩
      exact ⟨_, rfl, rfl, by first | (obtain ⟨nq, rfl⟩ := hq; exact (KB.refl _ _).drewN _) | (subst hq; exact KB.refl _ _) | exact hq, trivial⟩) ?_
    rintro v rfl
    simp only [Act.put, List.setIfInBounds_toArray, List.set_cons_zero, List.set_cons_succ]
    iterate 2 (refine rv_det (by kernel_rfl) rfl (by intro w hG hH; go_simp; first | done | with_reducible rfl) ?_; simp only [Act.put, List.setIfInBounds_toArray, List.set_cons_zero, List.set_cons_succ])
    refine rv_nil (fun w hG hH => ?_)
    have hb4 := hG.heap (fun x => x) H3.out.1
    have ho4 := own_kb H3.out.2.1 hG (fun _ _ x => x)
    have k4 : KB (fun k => k = X) w0 w := H3.out.2.2.trans (hG.mono (fun _ _ x => x.elim))
    have H4 := Lib.hid (And.intro hb4 (And.intro ho4 k4))
    clear hb4 ho4 k4 hG hH e0
    go_wp2_with fail
    go_ret
    refine ⟨rfl, _, H4.out.1, ?_, H4.out.2.2⟩
    rw [HNN.out]
    exact H4.out.2.1
/-- Behind Lines: lines in new memory. -/
def LsEnd (w : World) (R : List ByteArray × Nat) (e : Ending) (w' : World) : Prop := ∃ v, e = .returned (.tuple #[v, .int .i64 (R.2 : Nat)]) ∧ w'.ownsRow w.heap.size 9 1 v R.1.length (R.1.map Value.string) ∧ KB F0 w w'
set_option maxRecDepth 100000 in
set_option maxHeartbeats 4000000 in
theorem plines_any (ts : List Nd) (hlen : ts.length < 100000000) (hok : ∀ x ∈ ts, NdOk x) (a : Option Addr) (cap : Nat) (w : World) (hts : NodesAt w a ts) (hT : PT w) :
    Calls Tryz.prog 17 #[.agg #[.slice a ts.length cap]] w (LsEnd w (linesP ts)) := by
  obtain ⟨w0, rfl⟩ : ∃ w0, w0 = w := ⟨_, rfl⟩
  obtain ⟨W2, hW2⟩ : ∃ W2, W2 = (w0.alloc (.cells #[.slice a ts.length cap] 24)).alloc (.cells #[.slice none 0 0] 33) := ⟨_, rfl⟩
  have k2 : KB F0 w0 W2 := by rw [hW2]; exact (tree_box a ts.length cap w0).alloc _
  have hsz : (w0.alloc (.cells #[.slice a ts.length cap] 24)).heap.size = w0.heap.size + 1 := by simp
  have hbX : W2.heap[w0.heap.size + 1]? = some (.cells #[.slice none 0 0] 33 (0, 0)) := by rw [hW2, ← hsz]; exact alloc_new _ _
  have TD := told_cap1 ts hlen hok a cap 50 51 (.pointer (some ⟨w0.heap.size + 1, 0, none⟩)) W2 (hts.kbF k2) (hT.kb k2) (rootOk (ts.getD 0 nd0).k) (lnT (linesN ts)) (LsAt W2 W2 (w0.heap.size + 1) (linesN ts))
    (fun e => by have h := tok_of e; have := lines_size h hok; have := h.len; rw [lnT_size]; omega) (fun _ W _ => plines1_any _ W)
    (fun e1 e2 W hk => (plines2_any ts (tok_of e1) hok a cap (w0.heap.size + 1) W (hts.kbF (k2.trans hk)) (hT.kb (k2.trans hk)) e2 (hk.heap (fun x => x) hbX)).mono fun e w' ⟨h1, v, h2, h3, h4⟩ => ⟨h1, v, h2, own_base h3 hk.size, (hk.mono (fun _ _ x => x.elim)).trans h4⟩)
    (enters Tryz.func50 (by kernel_rfl) (by kernel_rfl)) (enters Tryz.func51 (by kernel_rfl) (by kernel_rfl))
  have hR : linesP ts = if (mayN ts && rootOk (ts.getD 0 nd0).k) = true then (if 65536 < szL (linesN ts) then ([], 3) else (linesN ts, 0)) else ([], 2) := rfl
  have HL1 : Hid (65536 < szL (linesN ts) → longP (lnT (linesN ts)) = (ByteArray.empty, 3)) := Lib.hid (fun e => by unfold longP; rw [lnT_size, if_pos e])
  have HL2 : Hid (¬ 65536 < szL (linesN ts) → longP (lnT (linesN ts)) = (lnT (linesN ts), 0)) := Lib.hid (fun e => by unfold longP; rw [lnT_size, if_neg e])
  have H := Lib.hid TD
  have HK := Lib.hid (And.intro k2 hbX)
  have HW := Lib.hid hW2
  have HR := Lib.hid hR
  generalize linesP ts = R at HR ⊢
  generalize linesN ts = L at H HL1 HL2 HR
  generalize lnT L = T at H HL1 HL2
  generalize szL L = Z at HL1 HL2 HR
  generalize (mayN ts && rootOk (ts.getD 0 nd0).k) = ok at H HR
  generalize ts.length = N at H HW ⊢
  clear TD hts hT hok hlen k2 hbX hW2 hR hsz
  go_enter Tryz.func17, Tryz.ntmps17
  go_wp2_with fail
  rw [← HW.out]
  refine H.out.mono ?_
  rintro e w3 h3
  rcases h3 with ⟨rfl, rfl, v, hb, hown, hk⟩ | ⟨rfl, rfl, hk⟩
  · have c0 := blk_cell hb 0
    have hk0 : KB F0 w0 w3 := HK.out.1.above hk (fun i e => by omega)
    have H3 := Lib.hid (And.intro hk0 (own_base hown HK.out.1.size))
    clear hb hown hk hk0
    by_cases hz : 65536 < Z
    · have hl := HL1.out hz
      have HE : Hid (R = ([], 3)) := Lib.hid (by rw [HR.out, if_pos rfl, if_pos hz])
      clear hz
      rw [hl]
      clear hl
      go_wp2_with fail
      go_ret2
      exact ⟨.slice none 0 0, by rw [HE.out]; rfl, by rw [HE.out]; exact World.ownsRow_nil _ _ _ _, H3.out.1⟩
    · have hl := HL2.out hz
      have HE : Hid (R = (L, 0)) := Lib.hid (by rw [HR.out, if_pos rfl, if_neg hz])
      clear hz
      rw [hl]
      clear hl
      go_wp2_with fail
      go_ret2
      exact ⟨v, by rw [HE.out]; rfl, by rw [HE.out]; exact H3.out.2, H3.out.1⟩
  · have HE : Hid (R = ([], 2)) := Lib.hid (by rw [HR.out, if_neg (by decide)])
    have H3 := Lib.hid (HK.out.1.trans hk)
    clear hk
    go_wp2_with fail
    go_ret2
    exact ⟨.slice none 0 0, by rw [HE.out]; rfl, by rw [HE.out]; exact World.ownsRow_nil _ _ _ _, H3.out⟩
set_option maxRecDepth 100000 in
set_option maxHeartbeats 4000000 in
theorem plevel_any (ts : List Nd) (hlen : ts.length < 100000000) (hok : ∀ x ∈ ts, NdOk x) (a : Option Addr) (cap : Nat) (n : Int) (w : World) (hts : NodesAt w a ts) (hT : PT w) :
    Calls Tryz.prog 19 #[.agg #[.slice a ts.length cap], .int .i64 n] w fun e w' => e = .returned (.tuple #[.int .i64 ((levelP ts n).1 : Nat), .int .i64 ((levelP ts n).2 : Nat)]) ∧ KB F0 w w' := by
  obtain ⟨w0, rfl⟩ : ∃ w0, w0 = w := ⟨_, rfl⟩
  obtain ⟨W1, hW1⟩ : ∃ W1, W1 = w0.alloc (.cells #[.slice a ts.length cap] 24) := ⟨_, rfl⟩
  have k1 : KB F0 w0 W1 := by rw [hW1]; exact tree_box _ _ _ _
  have hb1 : W1.heap[w0.heap.size]? = some (.cells #[.slice a ts.length cap] 24 (0, 0)) := by rw [hW1]; exact alloc_new _ _
  have TM := Lib.hid (fun (W : World) (hk : KB F0 w0 W) => tmay_any ts hlen hok a cap W (hts.kbF hk) (hT.kb hk).asc)
  obtain ⟨R, hR⟩ : ∃ R, R = levelP ts n := ⟨_, rfl⟩
  rw [← hR]
  unfold levelP at hR
  have HB := Lib.hid (And.intro k1 hb1)
  have HW := Lib.hid hW1
  have HTB := Lib.hid (fun (W : World) (hk : KB F0 w0 W) => (hT.kb hk).asc)
  have HTS := Lib.hid (And.intro hts hok)
  have HTO : Hid (mayN ts = true → TOk ts) := Lib.hid tok_of
  obtain ⟨N, hN⟩ : ∃ N, N = ts.length := ⟨_, rfl⟩
  rw [← hN] at TM hR HB HW ⊢
  have HN := Lib.hid hN
  clear hts hT hok hlen k1 hb1 hW1 hN
  by_cases hm : mayN ts = true
  · rw [hm] at TM hR
    by_cases h1 : n < 0
    · have HE : Hid (R = (0, 2)) := Lib.hid (by rw [hR, show decide (0 ≤ n) = false from decide_eq_false (by omega)]; rfl)
      have t1 : decide (n < 0) = true := decide_eq_true h1
      clear hR h1
      go_enter Tryz.func19, Tryz.ntmps19
      go_wp2_with fail
      rw [← HW.out]
      refine (TM.out W1 HB.out.1).mono ?_
      rintro e w2 ⟨rfl, k2⟩
      have K2 := Lib.hid (HB.out.1.trans k2)
      clear k2
      go_wp2_with fail
      go_ret2
      exact ⟨ret_eq (by rw [HE.out]; rfl), K2.out⟩
    have t1 : decide (n < 0) = false := decide_eq_false h1
    obtain ⟨m, rfl⟩ := Int.eq_ofNat_of_zero_le (show 0 ≤ n by omega)
    have t1 : decide ((m : Int) < 0) = false := t1
    by_cases h2 : N ≤ m
    · have HE : Hid (R = (0, 2)) := Lib.hid (by rw [hR, show decide ((m : Int) < (N : Int)) = false from decide_eq_false (by omega), Bool.and_false]; rfl)
      have t2 : decide (N ≤ m) = true := decide_eq_true h2
      clear hR h2 h1
      go_enter Tryz.func19, Tryz.ntmps19
      go_wp2_with fail
      rw [← HW.out]
      refine (TM.out W1 HB.out.1).mono ?_
      rintro e w2 ⟨rfl, k2⟩
      have c0 : w2.cell? ⟨w0.heap.size, 0, none⟩ = some (.slice a N cap) := blk_cell (k2.heap (fun x => x) HB.out.2) 0
      have K2 := Lib.hid (HB.out.1.trans k2)
      clear k2
      go_wp2_with fail
      go_ret2
      exact ⟨ret_eq (by rw [HE.out]; rfl), K2.out⟩
    have t2 : decide (N ≤ m) = false := decide_eq_false h2
    have hmN : (m : Int) < (N : Int) := by omega
    have hmi : m < ts.length := by rw [← HN.out]; omega
    rw [show decide ((0 : Int) ≤ (m : Int)) = true from decide_eq_true (by omega), show decide ((m : Int) < (N : Int)) = true from decide_eq_true (by omega), Int.toNat_natCast] at hR
    obtain ⟨b, off, rfl, hx⟩ := HTS.out.1 m hmi
    have htx := (HTO.out hm).txt hmi
    have hxk := HTS.out.2 _ (getD_memN hmi)
    generalize ts.getD m nd0 = x at hx hR htx hxk
    obtain ⟨la, lc, hl4, -, -, -⟩ := hx.l
    obtain ⟨k, at_, z, s, l⟩ := x
    simp only at hR htx hl4
    have LV := Lib.hid (fun (W : World) (hk : KB F0 w0 W) => level_any k hxk.k at_ z s la l.length lc htx.2.2 W (HTB.out W hk))
    have IE := Lib.hid (fun (W : World) => pisExpr_any k W)
    have HX := Lib.hid hx
    have HL4 := Lib.hid hl4
    have HR := Lib.hid hR
    generalize isExprB k = ie at IE HR
    generalize lvP k s = lv at LV HR
    generalize l.length = M at HL4 LV
    clear hR hx hl4 htx hxk h1 h2 hmi
    have c0i : True := trivial
    cases ie
    case false =>
      have HE : Hid (R = (0, 2)) := Lib.hid HR.out
      go_enter Tryz.func19, Tryz.ntmps19
      go_wp2_with fail
      rw [← HW.out]
      refine (TM.out W1 HB.out.1).mono ?_
      rintro e w2 ⟨rfl, k2⟩
      have hkk := HB.out.1.trans k2
      have c0 : w2.cell? ⟨w0.heap.size, 0, none⟩ = some (.slice (some ⟨b, off, none⟩) N cap) := blk_cell (k2.heap (fun x => x) HB.out.2) 0
      have ck : w2.cell? ⟨b, off + m * 5, none⟩ = some (.int .u8 k) := hkk.cell (p := ⟨b, off + m * 5, none⟩) (fun x => x) HX.out.k
      have K2 := Lib.hid hkk
      clear k2 hkk
      go_wp2_with fail
      refine (IE.out w2).mono ?_
      rintro e w3 ⟨rfl, k3⟩
      have K3 := Lib.hid (K2.out.trans k3)
      clear k3 c0 ck
      go_wp2_with fail
      go_ret2
      exact ⟨ret_eq (by rw [HE.out]; rfl), K3.out⟩
    case true =>
      have HE : Hid (R = (lv, 0)) := Lib.hid HR.out
      go_enter Tryz.func19, Tryz.ntmps19
      go_wp2_with fail
      rw [← HW.out]
      refine (TM.out W1 HB.out.1).mono ?_
      rintro e w2 ⟨rfl, k2⟩
      have hkk := HB.out.1.trans k2
      have c0 : w2.cell? ⟨w0.heap.size, 0, none⟩ = some (.slice (some ⟨b, off, none⟩) N cap) := blk_cell (k2.heap (fun x => x) HB.out.2) 0
      have ck : w2.cell? ⟨b, off + m * 5, none⟩ = some (.int .u8 k) := hkk.cell (p := ⟨b, off + m * 5, none⟩) (fun x => x) HX.out.k
      have K2 := Lib.hid hkk
      clear k2 hkk
      go_wp2_with fail
      refine (IE.out w2).mono ?_
      rintro e w3 ⟨rfl, k3⟩
      have hkk := K2.out.trans k3
      have c0 := k3.cell (p := ⟨w0.heap.size, 0, none⟩) (fun x => x) c0
      have c1 : w3.cell? ⟨b, off + m * 5, none⟩ = some (.int .u8 k) := hkk.cell (p := ⟨b, off + m * 5, none⟩) (fun x => x) HX.out.k
      have c2 : w3.cell? ⟨b, off + m * 5 + 1, none⟩ = some (.int .i64 at_) := hkk.cell (p := ⟨b, off + m * 5 + 1, none⟩) (fun x => x) HX.out.at_
      have c3 : w3.cell? ⟨b, off + m * 5 + 2, none⟩ = some (.int .i64 z) := hkk.cell (p := ⟨b, off + m * 5 + 2, none⟩) (fun x => x) HX.out.n
      have c4 : w3.cell? ⟨b, off + m * 5 + 3, none⟩ = some (.string s) := hkk.cell (p := ⟨b, off + m * 5 + 3, none⟩) (fun x => x) HX.out.s
      have c5 := hkk.cell (p := ⟨b, off + m * 5 + 4, none⟩) (fun x => x) HL4.out
      have K3 := Lib.hid hkk
      clear k3 ck hkk
      go_wp2_with fail
      refine (LV.out w3 K3.out).mono ?_
      rintro e w4 ⟨rfl, k4⟩
      have K4 := Lib.hid (K3.out.trans k4)
      clear k4 c0 c1 c2 c3 c4 c5
      go_wp2_with fail
      go_ret2
      exact ⟨ret_eq (by rw [HE.out]; rfl), K4.out⟩
  · have hm : mayN ts = false := by simpa using hm
    rw [hm] at TM hR
    have HE : Hid (R = (0, 2)) := Lib.hid hR
    clear hR hm
    go_enter Tryz.func19, Tryz.ntmps19
    go_wp2_with fail
    rw [← HW.out]
    refine (TM.out W1 HB.out.1).mono ?_
    rintro e w2 ⟨rfl, k2⟩
    have K2 := Lib.hid (HB.out.1.trans k2)
    clear k2
    go_wp2_with fail
    go_ret2
    exact ⟨ret_eq (by rw [HE.out]; rfl), K2.out⟩
end Go.Proofs.YtoophdcagpfmpaaGreatDoor

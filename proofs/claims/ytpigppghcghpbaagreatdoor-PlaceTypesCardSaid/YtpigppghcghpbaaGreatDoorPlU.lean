/- place.Read. -/
import Derived.Test.YtpigppghcghpbaaGreatDoorMg37
import Derived.Test.YtpigppghcghpbaaGreatDoorMg35
import Derived.WalkMore
namespace Go.Proofs.YtpigppghcghpbaaGreatDoor
open Go.RowKit

theorem toList_beqP (s : ByteArray) (l : List UInt8) : (s.toList == l) = decide (s = ⟨l.toArray⟩) := by
  rw [ByteArray.toList_eq, Bool.eq_iff_iff, beq_iff_eq, decide_eq_true_iff]
  constructor
  · intro h; subst h; simp
  · rintro rfl; simp
theorem tl_beqP (p s : ByteArray) : (p.toList == s.toList) = decide (p = s) := by
  rw [toList_beqP, ByteArray.toList_eq]
theorem bytes_of {s : ByteArray} {l : List UInt8} (h : s.data.toList = l) : s = ⟨l.toArray⟩ := by subst h; simp
theorem spl_le : ∀ (l : List UInt8), ∀ p ∈ splL l, p.length ≤ l.length := by
  intro l p hp
  obtain ⟨a, ps, h1, h2, -, -⟩ := splL_parts l
  rw [h1] at hp
  have hd : ∀ (ps : List (List UInt8)), ∀ p ∈ ps, p.length ≤ (dotL ps).length := by
    intro ps
    induction ps with
    | nil => intro p h; simp at h
    | cons q ps ih =>
      intro p h
      rw [show dotL (q :: ps) = 46 :: (q ++ dotL ps) from rfl, List.length_cons, List.length_append]
      rcases List.mem_cons.1 h with rfl | h
      · omega
      · have := ih p h; omega
  rw [h2, List.length_append]
  rcases List.mem_cons.1 hp with rfl | h
  · omega
  · have := hd ps p h; omega
/-- The place under way: at X its local and its steps. -/
structure RdSt (w1 wr : World) (X : Nat) (loc : Int) (xs : List Int) (v : Value) : Prop where
  kb : KB (· = X) w1 wr
  blk : wr.heap[X]? = some (.cells #[.int .i64 loc, v] 26 (0, 0))
  own : OwnI wr w1.heap.size v xs
theorem RdSt.kbF {w1 wr w' : World} {X : Nat} {loc : Int} {xs : List Int} {v : Value} (h : RdSt w1 wr X loc xs v) (hk : KB F0 wr w') : RdSt w1 w' X loc xs v :=
  ⟨h.kb.trans (hk.mono (fun _ _ x => x.elim)), hk.heap (fun x => x) h.blk, h.own.kbF hk⟩
theorem RdSt.ne {w1 wr : World} {X : Nat} {loc : Int} {xs : List Int} {v : Value} (h : RdSt w1 wr X loc xs v) (hX : X < w1.heap.size) : ∀ g, v.ownBlock = some g → g ≠ X := fun g e e2 => by
  have := (h.own.lt g e).1
  omega
theorem RdSt.push {w1 wr w' : World} {X : Nat} {loc y : Int} {xs : List Int} {v v' : Value} {o : Obj} (h : RdSt w1 wr X loc xs v) (hX : X < w1.heap.size)
    (h' : w'.ownsRow w1.heap.size 56 1 v' (xs.length + 1) (ints xs ++ [.int .i64 y])) (hg : (wr.alloc o).grownBy w' v.ownBlock) : RdSt w1 (w'.setCell ⟨X, 1, none⟩ v') X loc (xs ++ [y]) v' := by
  have ho : OwnI (wr.alloc o) w1.heap.size v xs := h.own.kbF ((KB.refl _ _).alloc _)
  have k1 : KB (· = X) w1 w' := (h.kb.alloc o).grown hg (own_ge ho (Nat.le_refl _))
  have hown : OwnI w' w1.heap.size v' (xs ++ [y]) := by
    unfold OwnI
    rw [List.length_append, ints_app]
    exact h'
  have hb : w'.heap[X]? = some (.cells #[.int .i64 loc, v] 26 (0, 0)) := by
    have hlt := heap_lt h.blk
    rw [hg.block X (by simp; omega) (fun e => h.ne hX X e.symm rfl)]
    exact ((KB.refl F0 wr).alloc o).heap (fun x => x) h.blk
  refine ⟨k1.setCell (p := ⟨X, 1, none⟩) (fun _ => rfl) _, setCell_blk (i := 1) hb v', own_kb hown (kb_set w' X 1 v') (fun g e e2 => ?_)⟩
  have := (hown.lt g e).1
  omega
theorem RdSt.setLoc {w1 wr : World} {X : Nat} {loc : Int} {xs : List Int} {v : Value} (h : RdSt w1 wr X loc xs v) (hX : X < w1.heap.size) (n : Int) : RdSt w1 (wr.setCell ⟨X, 0, none⟩ (.int .i64 n)) X n xs v :=
  ⟨h.kb.setCell (p := ⟨X, 0, none⟩) (fun _ => rfl) _, setCell_blk (i := 0) h.blk (.int .i64 n), own_kb h.own (kb_set wr X 0 _) (fun g e e2 => h.ne hX g e e2)⟩
theorem kb_over {w0 w1 w' : World} {X : Nat} (h : KB F0 w0 w1) (hk : KB (· = X) w1 w') (hX : w0.heap.size ≤ X) : KB F0 w0 w' :=
  ((h.mono (fun _ _ x => x.elim)).trans hk).mono (fun k h1 h2 => by have h3 : k = X := h2; omega)
/-- The end of Read. -/
def RdEnd (w0 : World) (O : Option Pl) (e : Ending) (w' : World) : Prop := ∃ v, e = .returned (.tuple #[.agg #[.int .i64 (rdP O).loc, v], .int .i64 (rdE O)]) ∧ OwnI w' w0.heap.size v (rdP O).path ∧ KB F0 w0 w'
theorem rdEnd_no {w0 w' : World} {O : Option Pl} (h : O = none) (hk : KB F0 w0 w') : RdEnd w0 O (.returned (.tuple #[.agg #[.int .i64 0, .slice none 0 0], .int .i64 90])) w' := by
  subst h
  exact ⟨_, rfl, ownI_nil _ _, hk⟩
set_option maxRecDepth 100000 in
set_option maxHeartbeats 32000000 in
theorem read_any (s : ByteArray) (hs : s.size ≤ 1000000) (w : World) (hT : TabP w) : Calls Tryz.prog 27 #[.string s] w fun e w' => RdEnd w (rdL s.data.toList) e w' := by
  obtain ⟨w0, rfl⟩ : ∃ w0, w0 = w := ⟨_, rfl⟩
  have CP := Tryz.strings_CutPrefix s ⟨#[95]⟩
  have hR : ∃ (R : ByteArray) (ok : Bool), (∀ w, Calls Tryz.prog 50 #[.string s, .string ⟨#[95]⟩] w fun e w' => e = .returned (.tuple #[.string R, .bool ok]) ∧ w' = w) ∧ (ok = true → s.data.toList = 95 :: R.data.toList) ∧ (ok = false → ∀ r, s.data.toList ≠ 95 :: r) ∧ R.size ≤ s.size := by
    refine ⟨_, _, CP, ?_, ?_, ?_⟩
    · intro h
      show s.data.toList = 95 :: (Lib.trimPrefix s.data.toList [95]).toArray.toList
      have h1 : Lib.hasPrefix s.data.toList [95] = true := h
      rw [Lib.trimPrefix, if_pos h1]
      unfold Lib.hasPrefix at h1
      cases hl : s.data.toList with
      | nil => rw [hl] at h1; cases h1
      | cons c r =>
        rw [hl] at h1
        have : 95 = c := by simpa using h1
        subst this
        simp
    · intro h r hr
      have h1 : Lib.hasPrefix s.data.toList [95] = false := h
      rw [hr] at h1
      simp [Lib.hasPrefix] at h1
    · show (Lib.trimPrefix s.data.toList [95]).toArray.size ≤ s.size
      rw [List.size_toArray, Lib.trimPrefix]
      have : s.data.toList.length = s.size := Array.length_toList
      split
      · rw [List.length_drop]; omega
      · omega
  obtain ⟨R, ok, HCP, hok, hno, hRs⟩ := hR
  obtain ⟨O, hO⟩ : ∃ O, O = rdL s.data.toList := ⟨_, rfl⟩
  rw [← hO]
  have HCP := Lib.hid HCP
  have HNo : Hid (ok = false → O = none) := Lib.hid (fun h => by rw [hO]; exact rdL_no (hno h))
  have HYes : Hid (ok = true → O = if 9 < (splL R.data.toList).length then none else rdK (splL R.data.toList) (splL R.data.toList).length) := Lib.hid (fun h => by rw [hO, hok h, rdL_rdK])
  have SP := Lib.hid (fun (W : World) (hk : KB F0 w0 W) => split_any R (by omega) W (hT.kb hk))
  have HLE : Hid (∀ p ∈ splL R.data.toList, p.length ≤ 1000000) := Lib.hid (fun p hp => by
    have h1 := spl_le _ p hp
    have h2 : R.data.toList.length = R.size := Array.length_toList
    omega)
  have HT := Lib.hid hT
  clear CP hok hno hO hT hRs hs
  obtain ⟨hk, hb1, hb2⟩ := new2 w0 #[.int .i64 0, .slice none 0 0] #[.int .i64 0, .slice none 0 0] 26 26
  obtain ⟨W, hW⟩ : ∃ W, W = ((w0.alloc (.cells #[.int .i64 0, .slice none 0 0] 26)).alloc (.cells #[.int .i64 0, .slice none 0 0] 26)) := ⟨_, rfl⟩
  rw [← hW] at hk hb1 hb2
  have HB := Lib.hid (And.intro hk (And.intro hb1 hb2))
  have HW := Lib.hid hW
  clear hk hb1 hb2 hW
  have Hdot : dotB = ⟨#[46]⟩ := rfl
  rw [Hdot] at SP
  clear Hdot
  go_enter Tryz.func27, Tryz.ntmps27
  go_wp2_with fail
  go_step3
  go_wp2_with fail
  rw [← HW.out]
  refine (HCP.out _).mono ?_
  rintro e w1 ⟨rfl, rfl⟩
  go_wp2_with fail
  refine (SP.out _ HB.out.1).mono ?_
  rintro e w1 ⟨g, ps, rfl, hps, hpa, k1⟩
  obtain ⟨n, hn⟩ : ∃ n, n = ps.length := ⟨_, rfl⟩
  rw [← hn]
  have hln : (splL R.data.toList).length = n := by rw [← hps, List.length_map, hn]
  rw [hln] at HYes
  have b1 := k1.heap (fun x => x) HB.out.2.1
  have b2 := k1.heap (fun x => x) HB.out.2.2
  have H1 := Lib.hid (And.intro (HB.out.1.trans k1) (And.intro b1 (And.intro b2 (And.intro hpa (And.intro hps hn)))))
  clear k1 hps hpa hn hln b1 b2
  cases ok
  case false =>
    have HE := Lib.hid (HNo.out rfl)
    have p0 : w1.cell? ⟨w0.heap.size + 1, 0, none⟩ = some (.int .i64 0) := blk_cell H1.out.2.2.1 0
    have p1 : w1.cell? ⟨w0.heap.size + 1, 1, none⟩ = some (.slice none 0 0) := blk_cell H1.out.2.2.1 1
    have q0 : w1.cell? ⟨w0.heap.size, 0, none⟩ = some (.int .i64 0) := blk_cell H1.out.2.1 0
    have q1 : w1.cell? ⟨w0.heap.size, 1, none⟩ = some (.slice none 0 0) := blk_cell H1.out.2.1 1
    have f0 := blk_frozen (H1.out.2.1) 0
    have f1 := blk_frozen (H1.out.2.1) 1
    go_wp2_with fail
    refine ret_pl2 (X := w0.heap.size) rfl rfl rfl (setCell_blk (i := 1) (setCell_blk (i := 0) H1.out.2.1 (.int .i64 0)) (.slice none 0 0)) rfl (rdEnd_no HE.out ?_)
    exact kb_new (kb_new H1.out.1 (Nat.le_refl _) 0 _) (Nat.le_refl _) 1 _
  case true =>
    by_cases h9 : 9 < n
    · have HE : Hid (O = none) := Lib.hid (by rw [HYes.out rfl, if_pos h9])
      have d1 : decide ((9 : Int) < (n : Int)) = true := decide_eq_true (by omega)
      have d1n : decide (9 < n) = true := decide_eq_true h9
      have p0 : w1.cell? ⟨w0.heap.size + 1, 0, none⟩ = some (.int .i64 0) := blk_cell H1.out.2.2.1 0
      have p1 : w1.cell? ⟨w0.heap.size + 1, 1, none⟩ = some (.slice none 0 0) := blk_cell H1.out.2.2.1 1
      have q0 : w1.cell? ⟨w0.heap.size, 0, none⟩ = some (.int .i64 0) := blk_cell H1.out.2.1 0
      have q1 : w1.cell? ⟨w0.heap.size, 1, none⟩ = some (.slice none 0 0) := blk_cell H1.out.2.1 1
      have f0 := blk_frozen (H1.out.2.1) 0
      have f1 := blk_frozen (H1.out.2.1) 1
      go_wp2_with fail
      refine ret_pl2 (X := w0.heap.size) rfl rfl rfl (setCell_blk (i := 1) (setCell_blk (i := 0) H1.out.2.1 (.int .i64 0)) (.slice none 0 0)) rfl (rdEnd_no HE.out ?_)
      exact kb_new (kb_new H1.out.1 (Nat.le_refl _) 0 _) (Nat.le_refl _) 1 _
    have d1 : decide ((9 : Int) < (n : Int)) = false := decide_eq_false (by omega)
    have d1n : decide (9 < n) = false := decide_eq_false h9
    have HO : Hid (O = rdK (splL R.data.toList) n ∧ n ≤ 9) := Lib.hid ⟨by rw [HYes.out rfl, if_neg h9], by omega⟩
    clear h9
    go_wp2_with fail
    go_step3
    go_wp2_with fail
    have HLT := Lib.hid (heap_lt H1.out.2.2.1)
    have HGX : Hid (g ≠ w0.heap.size + 1) := Lib.hid (fun e => by
      have h1 := H1.out.2.2.2.1
      unfold PartsAt at h1
      rw [e, H1.out.2.2.1] at h1
      simp only [Option.some.injEq, Obj.cells.injEq] at h1
      exact absurd h1.2.1 (by decide))
    go_loopw [29] (fun kv wr => ∃ (k : Nat) (loc : Int) (xs : List Int) (v : Value), k ≤ n ∧ kv = .int .i64 (k : Nat) ∧ Hid (RdSt w1 wr (w0.heap.size + 1) loc xs v ∧ rdK (splL R.data.toList) k = some ⟨loc, xs⟩ ∧ xs.length ≤ k)) (fun kv _ => n - (intOf kv).toNat)
    case atStart => exact ⟨0, 0, [], _, by omega, rfl, Lib.hid ⟨⟨KB.refl _ _, H1.out.2.2.1, ownI_nil _ _⟩, rfl, Nat.le_refl _⟩⟩
    case round =>
      obtain ⟨k, loc, xs, v, hk, rfl, hst⟩ := hrel
      by_cases hlt : k < n
      · have hkl : k < ps.length := by rw [← H1.out.2.2.2.2.2]; exact hlt
        have hc0 := H1.out.2.2.2.1.cell hkl
        rw [Nat.zero_add] at hc0
        have hc := hst.out.1.kb.cell (p := ⟨g, k, none⟩) (fun e => HGX.out e) hc0
        have hpl : (splL R.data.toList).getD k [] = (ps.getD k ByteArray.empty).data.toList := by
          rw [← H1.out.2.2.2.2.1, List.getD_eq_getElem?_getD, List.getElem?_map, List.getD_eq_getElem?_getD, List.getElem?_eq_getElem hkl]; rfl
        have hmem : (ps.getD k ByteArray.empty).data.toList ∈ splL R.data.toList := by
          rw [← H1.out.2.2.2.2.1, List.getD_eq_getElem?_getD, List.getElem?_eq_getElem hkl]
          exact List.mem_map.2 ⟨_, List.getElem_mem hkl, rfl⟩
        have hle := HLE.out _ hmem
        have hnone : rdK (splL R.data.toList) (k + 1) = none → O = none := fun h => by rw [HO.out.1]; exact rdK_none h n hlt
        generalize ps.getD k ByteArray.empty = part at hc0 hc hpl hmem hle
        have HPZ : Hid (part.size ≤ 1000000000) := Lib.hid (by have h2 : part.data.toList.length = part.size := Array.length_toList; omega)
        have HNONE := Lib.hid hnone
        have hn9 : n ≤ 9 := HO.out.2
        have hkN : (k : Int) < (n : Int) := by omega
        have d2 : decide ((k : Int) < (n : Int)) = true := decide_eq_true hkN
        clear hkl hc0 hmem hle hnone
        have hstep := hst.out.2.1
        by_cases hk0 : k = 0
        · as_aux_lemma =>
          subst hk0
          obtain ⟨rfl, rfl⟩ : loc = 0 ∧ xs = [] := by
            have h2 : some (⟨0, []⟩ : Pl) = some ⟨loc, xs⟩ := hstep
            simp only [Option.some.injEq, Pl.mk.injEq] at h2
            exact ⟨h2.1.symm, h2.2.symm⟩
          have hK1 : rdK (splL R.data.toList) 1 = (numL part.data.toList).map fun (v : Nat) => (⟨(v : Int), []⟩ : Pl) := by rw [← hpl]; rfl
          have HFail : Hid (numL part.data.toList = none → O = none) := Lib.hid (fun h => HNONE.out (by rw [hK1, h]; rfl))
          have HK1 := Lib.hid hK1
          clear hK1 hpl hstep HNONE
          have AT := Lib.hid (atoi_any part HPZ.out wr (HT.out.kb (kb_over H1.out.1 hst.out.1.kb (Nat.le_succ _))))
          go_wp2_with fail
          refine AT.out.mono ?_
          rintro e w2 ⟨hao, k2⟩
          have H2 := Lib.hid (hst.out.1.kbF k2)
          have HT2 := Lib.hid ((HT.out.kb (kb_over H1.out.1 hst.out.1.kb (Nat.le_succ _))).kb k2)
          clear k2 hc AT
          rcases hao with ⟨v2, hv2, rfl⟩ | ⟨hno2, n2, N2, rfl⟩
          case inr =>
            have HE : Hid (O = none) := Lib.hid (HFail.out (num_no hno2))
            have hne := fun w => err_ne N2 w
            clear hno2
            have q := H2.out.kb.heap (b := w0.heap.size) (fun e => by omega) H1.out.2.1
            have q0 : w2.cell? ⟨w0.heap.size, 0, none⟩ = some (.int .i64 0) := blk_cell q 0
            have q1 : w2.cell? ⟨w0.heap.size, 1, none⟩ = some (.slice none 0 0) := blk_cell q 1
            have f0 := blk_frozen (q) 0
            have f1 := blk_frozen (q) 1
            have HQ := Lib.hid q
            clear q
            go_wp2_with fail
            refine ret_pl2 (X := w0.heap.size) rfl rfl rfl (setCell_blk (i := 1) (setCell_blk (i := 0) HQ.out (.int .i64 0)) (.slice none 0 0)) rfl (rdEnd_no HE.out ?_)
            exact kb_new (kb_new (kb_over H1.out.1 H2.out.kb (Nat.le_succ _)) (Nat.le_refl _) 0 _) (Nat.le_refl _) 1 _
          have HV2 := Lib.hid (And.intro hv2 (Lib.atoiAll_bounds hv2))
          clear hv2
          have heq := fun w => err_eq w
          by_cases hv0 : v2 < 0
          · have HE : Hid (O = none) := Lib.hid (HFail.out (by rw [num_ok HV2.out.1, if_neg (fun h => by have := h.1; omega)]))
            have t1 : decide (v2 < 0) = true := decide_eq_true hv0
            clear hv0
            have q := H2.out.kb.heap (b := w0.heap.size) (fun e => by omega) H1.out.2.1
            have q0 : w2.cell? ⟨w0.heap.size, 0, none⟩ = some (.int .i64 0) := blk_cell q 0
            have q1 : w2.cell? ⟨w0.heap.size, 1, none⟩ = some (.slice none 0 0) := blk_cell q 1
            have f0 := blk_frozen (q) 0
            have f1 := blk_frozen (q) 1
            have HQ := Lib.hid q
            clear q
            go_wp2_with fail
            refine ret_pl2 (X := w0.heap.size) rfl rfl rfl (setCell_blk (i := 1) (setCell_blk (i := 0) HQ.out (.int .i64 0)) (.slice none 0 0)) rfl (rdEnd_no HE.out ?_)
            exact kb_new (kb_new (kb_over H1.out.1 H2.out.kb (Nat.le_succ _)) (Nat.le_refl _) 0 _) (Nat.le_refl _) 1 _
          have t1 : decide (v2 < 0) = false := decide_eq_false hv0
          have HV0 := Lib.hid (show 0 ≤ v2 by omega)
          have IT := Lib.hid (itoa_any v2 HV2.out.2 w2 HT2.out)
          obtain ⟨J, hJ⟩ : ∃ J : ByteArray, J = ⟨(Lib.itoa v2).toArray⟩ := ⟨_, rfl⟩
          rw [← hJ] at IT
          have HJ := Lib.hid hJ
          have HB1 := Lib.hid (tl_beqP J part)
          clear hv0 hJ
          by_cases hJp : J = part
          case neg =>
            have HE : Hid (O = none) := Lib.hid (HFail.out (by
              rw [num_ok HV2.out.1, if_neg]
              rintro ⟨-, h2⟩
              exact hJp (by rw [HJ.out, h2])))
            have tb : (J.toList == part.toList) = false := by rw [HB1.out]; exact decide_eq_false hJp
            clear hJp
            go_wp2_with fail
            refine IT.out.mono ?_
            rintro e w3 ⟨rfl, k3⟩
            have H3 := Lib.hid (H2.out.kbF k3)
            clear k3
            have q := H3.out.kb.heap (b := w0.heap.size) (fun e => by omega) H1.out.2.1
            have q0 : w3.cell? ⟨w0.heap.size, 0, none⟩ = some (.int .i64 0) := blk_cell q 0
            have q1 : w3.cell? ⟨w0.heap.size, 1, none⟩ = some (.slice none 0 0) := blk_cell q 1
            have f0 := blk_frozen (q) 0
            have f1 := blk_frozen (q) 1
            have HQ := Lib.hid q
            clear q
            go_wp2_with fail
            refine ret_pl2 (X := w0.heap.size) rfl rfl rfl (setCell_blk (i := 1) (setCell_blk (i := 0) HQ.out (.int .i64 0)) (.slice none 0 0)) rfl (rdEnd_no HE.out ?_)
            exact kb_new (kb_new (kb_over H1.out.1 H3.out.kb (Nat.le_succ _)) (Nat.le_refl _) 0 _) (Nat.le_refl _) 1 _
          have tb : (J.toList == part.toList) = true := by rw [HB1.out]; exact decide_eq_true hJp
          have HNum : Hid (numL part.data.toList = some v2.toNat) := Lib.hid (by rw [num_ok HV2.out.1, if_pos ⟨HV0.out, by rw [← hJp, HJ.out]⟩])
          have HJp := Lib.hid hJp
          clear hJp
          have HN : Hid (rdK (splL R.data.toList) 1 = some ⟨v2, []⟩) := Lib.hid (by
            rw [HK1.out, HNum.out]
            have : ((v2.toNat : Nat) : Int) = v2 := Int.toNat_of_nonneg HV0.out
            simp [this])
          go_wp2_with fail
          refine IT.out.mono ?_
          rintro e w3 ⟨rfl, k3⟩
          have H3 := Lib.hid (H2.out.kbF k3)
          clear k3
          have p0 : w3.cell? ⟨w0.heap.size + 1, 0, none⟩ = some (.int .i64 0) := blk_cell H3.out.blk 0
          have f0 := blk_frozen H3.out.blk 0
          go_wp2_with fail
          refine ⟨⟨1, v2, [], _, by omega, by go_num, Lib.hid ⟨H3.out.setLoc HLT.out v2, HN.out, Nat.zero_le _⟩⟩, by simp [intOf]; omega⟩
        have hK1 : rdK (splL R.data.toList) (k + 1) = (stepL part.data.toList).map fun x => (⟨loc, xs ++ [x]⟩ : Pl) := by
          rw [rdK, hstep, ← hpl]
          simp only [hk0, if_false, Option.bind_some]
        have t0 : decide ((0 : Int) < (k : Int)) = true := decide_eq_true (by omega)
        have t0n : decide (0 < k) = true := decide_eq_true (by omega)
        have t0i : (0 : Int) < (k : Int) := by omega
        have t0m : 0 < k := by omega
        have t00 : ((k : Int) == 0) = false := by simp; omega
        have HK1 := Lib.hid hK1
        have HBS := Lib.hid (toList_beqP part [42])
        clear hK1 hpl hstep hk0
        by_cases hstar : part = ⟨#[42]⟩
        · as_aux_lemma =>
          have ts : (part.toList == [42]) = true := by rw [HBS.out]; exact decide_eq_true hstar
          have HN : Hid (rdK (splL R.data.toList) (k + 1) = some ⟨loc, xs ++ [-1]⟩) := Lib.hid (by rw [HK1.out, hstar]; rfl)
          clear hstar
          have hb := hst.out.1.blk
          obtain ⟨la, lc, rfl⟩ := own_lenP hst.out.1.own
          have p1 : wr.cell? ⟨w0.heap.size + 1, 1, none⟩ = some (.slice la xs.length lc) := blk_cell hb 1
          have HBB := Lib.hid hb
          clear hb
          go_wp2_with (at_builtin; refine Stopped.out ?_)
          refine ⟨?_⟩
          have ho := hst.out.1.own.kbF ((KB.refl F0 wr).alloc (.cells #[.int .i64 (-1)] 56))
          refine app1 24 56 w1.heap.size (.int .i64 (-1)) Tryz.infoStep Tryz.underlying24 (by decide) ho rfl rfl rfl rfl (blk_cell (alloc_new _ _) 0) rfl (by have := HO.out.2; have := hst.out.2.2; unfold maxLen; omega) (by have := HO.out.2; have := hst.out.2.2; omega) (by have := hst.out.1.kb.size; simp; omega) ?_
          intro v' w' hown hgr
          have hps := hst.out.1.push HLT.out hown hgr
          obtain ⟨ma, mc, rfl⟩ := own_lenP hown
          have hb2 : w'.heap[w0.heap.size + 1]? = some (.cells #[.int .i64 loc, .slice la xs.length lc] 26 (0, 0)) := by
            have hlt := heap_lt HBB.out
            rw [hgr.block _ (by simp; omega) (fun e => hst.out.1.ne HLT.out _ e.symm rfl)]
            exact ((KB.refl F0 wr).alloc _).heap (fun x => x) HBB.out
          have p1 : w'.cell? ⟨w0.heap.size + 1, 1, none⟩ = some (.slice la xs.length lc) := blk_cell hb2 1
          have f1 := blk_frozen hb2 1
          have HPS := Lib.hid hps
          clear hown hgr hps hb2 ho
          go_wp2_with fail
          refine ⟨⟨k + 1, loc, xs ++ [(-1)], _, by omega, by go_num, Lib.hid ⟨HPS.out, HN.out, by have := hst.out.2.2; simp; omega⟩⟩, by simp [intOf]; omega⟩
        as_aux_lemma =>
        have ts : (part.toList == [42]) = false := by rw [HBS.out]; exact decide_eq_false hstar
        have hns : ∀ o, numL part.data.toList = o → stepL part.data.toList = match o with | some (v : Nat) => some (v : Int) | none => none := fun o h => by
          unfold stepL
          rw [if_neg (fun h => hstar (bytes_of h)), h]
          cases o <;> rfl
        have HNS := Lib.hid hns
        have HFail : Hid (numL part.data.toList = none → O = none) := Lib.hid (fun h => HNONE.out (by rw [HK1.out, HNS.out none h]; rfl))
        clear hns
        clear hstar HNONE
        have AT := Lib.hid (atoi_any part HPZ.out wr (HT.out.kb (kb_over H1.out.1 hst.out.1.kb (Nat.le_succ _))))
        go_wp2_with fail
        refine AT.out.mono ?_
        rintro e w2 ⟨hao, k2⟩
        have H2 := Lib.hid (hst.out.1.kbF k2)
        have HT2 := Lib.hid ((HT.out.kb (kb_over H1.out.1 hst.out.1.kb (Nat.le_succ _))).kb k2)
        clear k2 hc AT
        rcases hao with ⟨v2, hv2, rfl⟩ | ⟨hno2, n2, N2, rfl⟩
        case inr =>
          have HE : Hid (O = none) := Lib.hid (HFail.out (num_no hno2))
          have hne := fun w => err_ne N2 w
          clear hno2
          have q := H2.out.kb.heap (b := w0.heap.size) (fun e => by omega) H1.out.2.1
          have q0 : w2.cell? ⟨w0.heap.size, 0, none⟩ = some (.int .i64 0) := blk_cell q 0
          have q1 : w2.cell? ⟨w0.heap.size, 1, none⟩ = some (.slice none 0 0) := blk_cell q 1
          have f0 := blk_frozen (q) 0
          have f1 := blk_frozen (q) 1
          have HQ := Lib.hid q
          clear q
          go_wp2_with fail
          refine ret_pl2 (X := w0.heap.size) rfl rfl rfl (setCell_blk (i := 1) (setCell_blk (i := 0) HQ.out (.int .i64 0)) (.slice none 0 0)) rfl (rdEnd_no HE.out ?_)
          exact kb_new (kb_new (kb_over H1.out.1 H2.out.kb (Nat.le_succ _)) (Nat.le_refl _) 0 _) (Nat.le_refl _) 1 _
        have HV2 := Lib.hid (And.intro hv2 (Lib.atoiAll_bounds hv2))
        clear hv2
        have heq := fun w => err_eq w
        by_cases hv0 : v2 < 0
        · have HE : Hid (O = none) := Lib.hid (HFail.out (by rw [num_ok HV2.out.1, if_neg (fun h => by have := h.1; omega)]))
          have t1 : decide (v2 < 0) = true := decide_eq_true hv0
          clear hv0
          have q := H2.out.kb.heap (b := w0.heap.size) (fun e => by omega) H1.out.2.1
          have q0 : w2.cell? ⟨w0.heap.size, 0, none⟩ = some (.int .i64 0) := blk_cell q 0
          have q1 : w2.cell? ⟨w0.heap.size, 1, none⟩ = some (.slice none 0 0) := blk_cell q 1
          have f0 := blk_frozen (q) 0
          have f1 := blk_frozen (q) 1
          have HQ := Lib.hid q
          clear q
          go_wp2_with fail
          refine ret_pl2 (X := w0.heap.size) rfl rfl rfl (setCell_blk (i := 1) (setCell_blk (i := 0) HQ.out (.int .i64 0)) (.slice none 0 0)) rfl (rdEnd_no HE.out ?_)
          exact kb_new (kb_new (kb_over H1.out.1 H2.out.kb (Nat.le_succ _)) (Nat.le_refl _) 0 _) (Nat.le_refl _) 1 _
        have t1 : decide (v2 < 0) = false := decide_eq_false hv0
        have HV0 := Lib.hid (show 0 ≤ v2 by omega)
        have IT := Lib.hid (itoa_any v2 HV2.out.2 w2 HT2.out)
        obtain ⟨J, hJ⟩ : ∃ J : ByteArray, J = ⟨(Lib.itoa v2).toArray⟩ := ⟨_, rfl⟩
        rw [← hJ] at IT
        have HJ := Lib.hid hJ
        have HB1 := Lib.hid (tl_beqP J part)
        clear hv0 hJ
        by_cases hJp : J = part
        case neg =>
          have HE : Hid (O = none) := Lib.hid (HFail.out (by
            rw [num_ok HV2.out.1, if_neg]
            rintro ⟨-, h2⟩
            exact hJp (by rw [HJ.out, h2])))
          have tb : (J.toList == part.toList) = false := by rw [HB1.out]; exact decide_eq_false hJp
          clear hJp
          go_wp2_with fail
          refine IT.out.mono ?_
          rintro e w3 ⟨rfl, k3⟩
          have H3 := Lib.hid (H2.out.kbF k3)
          clear k3
          have q := H3.out.kb.heap (b := w0.heap.size) (fun e => by omega) H1.out.2.1
          have q0 : w3.cell? ⟨w0.heap.size, 0, none⟩ = some (.int .i64 0) := blk_cell q 0
          have q1 : w3.cell? ⟨w0.heap.size, 1, none⟩ = some (.slice none 0 0) := blk_cell q 1
          have f0 := blk_frozen (q) 0
          have f1 := blk_frozen (q) 1
          have HQ := Lib.hid q
          clear q
          go_wp2_with fail
          refine ret_pl2 (X := w0.heap.size) rfl rfl rfl (setCell_blk (i := 1) (setCell_blk (i := 0) HQ.out (.int .i64 0)) (.slice none 0 0)) rfl (rdEnd_no HE.out ?_)
          exact kb_new (kb_new (kb_over H1.out.1 H3.out.kb (Nat.le_succ _)) (Nat.le_refl _) 0 _) (Nat.le_refl _) 1 _
        have tb : (J.toList == part.toList) = true := by rw [HB1.out]; exact decide_eq_true hJp
        have HNum : Hid (numL part.data.toList = some v2.toNat) := Lib.hid (by rw [num_ok HV2.out.1, if_pos ⟨HV0.out, by rw [← hJp, HJ.out]⟩])
        have HJp := Lib.hid hJp
        clear hJp
        have HN : Hid (rdK (splL R.data.toList) (k + 1) = some ⟨loc, xs ++ [v2]⟩) := Lib.hid (by
          rw [HK1.out, HNS.out _ HNum.out]
          have : ((v2.toNat : Nat) : Int) = v2 := Int.toNat_of_nonneg HV0.out
          simp [this])
        go_wp2_with fail
        refine IT.out.mono ?_
        rintro e w3 ⟨rfl, k3⟩
        have H3 := Lib.hid (H2.out.kbF k3)
        clear k3
        have hb := H3.out.blk
        obtain ⟨la, lc, rfl⟩ := own_lenP H3.out.own
        have p1 : w3.cell? ⟨w0.heap.size + 1, 1, none⟩ = some (.slice la xs.length lc) := blk_cell hb 1
        have HBB := Lib.hid hb
        clear hb
        go_wp2_with (at_builtin; refine Stopped.out ?_)
        refine ⟨?_⟩
        have ho := H3.out.own.kbF ((KB.refl F0 w3).alloc (.cells #[.int .i64 v2] 56))
        refine app1 24 56 w1.heap.size (.int .i64 v2) Tryz.infoStep Tryz.underlying24 (by decide) ho rfl rfl rfl rfl (blk_cell (alloc_new _ _) 0) rfl (by have := HO.out.2; have := hst.out.2.2; unfold maxLen; omega) (by have := HO.out.2; have := hst.out.2.2; omega) (by have := H3.out.kb.size; simp; omega) ?_
        intro v' w' hown hgr
        have hps := H3.out.push HLT.out hown hgr
        obtain ⟨ma, mc, rfl⟩ := own_lenP hown
        have hb2 : w'.heap[w0.heap.size + 1]? = some (.cells #[.int .i64 loc, .slice la xs.length lc] 26 (0, 0)) := by
          have hlt := heap_lt HBB.out
          rw [hgr.block _ (by simp; omega) (fun e => H3.out.ne HLT.out _ e.symm rfl)]
          exact ((KB.refl F0 w3).alloc _).heap (fun x => x) HBB.out
        have p1 : w'.cell? ⟨w0.heap.size + 1, 1, none⟩ = some (.slice la xs.length lc) := blk_cell hb2 1
        have f1 := blk_frozen hb2 1
        have HPS := Lib.hid hps
        clear hown hgr hps hb2 ho
        go_wp2_with fail
        refine ⟨⟨k + 1, loc, xs ++ [v2], _, by omega, by go_num, Lib.hid ⟨HPS.out, HN.out, by have := hst.out.2.2; simp; omega⟩⟩, by simp [intOf]; omega⟩
      · as_aux_lemma =>
        obtain rfl : k = n := by omega
        have d2 : decide ((k : Int) < (k : Int)) = false := decide_eq_false (by omega)
        have HE : Hid (O = some ⟨loc, xs⟩) := Lib.hid (by rw [HO.out.1]; exact hst.out.2.1)
        obtain ⟨la, lc, rfl⟩ := own_lenP hst.out.1.own
        have q := hst.out.1.kb.heap (b := w0.heap.size) (fun e => by omega) H1.out.2.1
        have hb := hst.out.1.blk
        have q0 : wr.cell? ⟨w0.heap.size, 0, none⟩ = some (.int .i64 0) := blk_cell q 0
        have q1 : wr.cell? ⟨w0.heap.size, 1, none⟩ = some (.slice none 0 0) := blk_cell q 1
        have p0 : wr.cell? ⟨w0.heap.size + 1, 0, none⟩ = some (.int .i64 loc) := blk_cell hb 0
        have p1 : wr.cell? ⟨w0.heap.size + 1, 1, none⟩ = some (.slice la xs.length lc) := blk_cell hb 1
        have f0 := blk_frozen (q) 0
        have f1 := blk_frozen (q) 1
        have HQ := Lib.hid q
        clear q hb
        go_wp2_with fail
        refine ret_pl2 (X := w0.heap.size) rfl rfl rfl (setCell_blk (i := 1) (setCell_blk (i := 0) HQ.out (.int .i64 loc)) (.slice la xs.length lc)) rfl ⟨.slice la xs.length lc, ?_, ?_, ?_⟩
        · rw [HE.out]; rfl
        · rw [HE.out]
          have ho := own_base hst.out.1.own H1.out.1.size
          exact own_kb ho ((kb_set wr w0.heap.size 0 _).trans (kb_set _ w0.heap.size 1 _)) (fun g e e2 => by have := (hst.out.1.own.lt g e).1; have := HLT.out; omega)
        · exact kb_new (kb_new (kb_over H1.out.1 hst.out.1.kb (Nat.le_succ _)) (Nat.le_refl _) 0 _) (Nat.le_refl _) 1 _
end Go.Proofs.YtpigppghcghpbaaGreatDoor

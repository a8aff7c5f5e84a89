/- place.Held at any structs. PlaceDepths' plain law. -/
import Derived.Test.YtpigppghcghpbaaGreatDoorMg35
import Derived.Test.YtpigppghcghpbaaGreatDoorMg37
import Derived.Test.YtpigppghcghpbaaGreatDoorPwH
namespace Go.Proofs.YtpigppghcghpbaaGreatDoor
open Go.RowKit

/-- How many steps from the first on go through no reference. -/
def heldN (hs : List Int) : Nat := (hs.takeWhile fun h => decide (h < 2)).length
theorem heldN_eq : ∀ {hs : List Int} {k : Nat}, k ≤ hs.length → (∀ j, j < k → hs.getD j 0 < 2) → (k < hs.length → 2 ≤ hs.getD k 0) → heldN hs = k := by
  intro hs
  induction hs with
  | nil => intro k hk _ _; have : k = 0 := by simpa using hk
           subst this; rfl
  | cons h hs ih =>
    intro k hk h1 h2
    unfold heldN
    cases k with
    | zero =>
      have := h2 (by simp)
      simp only [List.getD_cons_zero] at this
      rw [List.takeWhile_cons, if_neg (by simp; omega)]; rfl
    | succ k =>
      have h0 := h1 0 (by omega)
      simp only [List.getD_cons_zero] at h0
      rw [List.takeWhile_cons, if_pos (by simpa using h0), List.length_cons]
      have := ih (k := k) (by simpa using hk) (fun j hj => by have := h1 (j + 1) (by omega); simpa using this) (fun hk' => by have := h2 (by simpa using hk'); simpa using this)
      unfold heldN at this
      rw [this]
theorem heldN_le (hs : List Int) : heldN hs ≤ hs.length := (List.takeWhile_sublist _).length_le
theorem held1_any (x : Int) (w : World) : Calls Tryz.prog 55 #[.int .i64 x] w fun e w' => e = .returned (.bool (decide (2 ≤ x))) ∧ w' = w := by
  obtain ⟨w0, rfl⟩ : ∃ w0, w0 = w := ⟨_, rfl⟩
  by_cases h : 2 ≤ x
  · rw [decide_eq_true h]
    have d : decide (2 ≤ x) = true := decide_eq_true h
    go_enter Tryz.func55, Tryz.ntmps55
    go_wp2_with fail
    go_ret
    exact ⟨rfl, rfl⟩
  · rw [decide_eq_false h]
    have d : decide (2 ≤ x) = false := decide_eq_false h
    go_enter Tryz.func55, Tryz.ntmps55
    go_wp2_with fail
    go_ret
    exact ⟨rfl, rfl⟩
set_option maxRecDepth 100000 in
set_option maxHeartbeats 8000000 in
theorem indexInt_any (hs : List Int) (B : Nat) (ga : Option Addr) (gc n : Nat) (hn : n = hs.length) (hl : n ≤ 1000000) (w : World) (ho : w.ownsRow B 3 1 (.slice ga n gc) n (intsV hs)) :
    Calls Tryz.prog 54 #[.slice ga n gc, .func (.func 55) #[] #[]] w fun e w' => e = .returned (.int .i64 (if heldN hs < n then (heldN hs : Int) else -1)) ∧ w' = w := by
  obtain ⟨w0, rfl⟩ : ∃ w0, w0 = w := ⟨_, rfl⟩
  obtain ⟨R, hR⟩ : ∃ R : Int, R = (if heldN hs < n then (heldN hs : Int) else -1) := ⟨_, rfl⟩
  rw [← hR]
  have HR := Lib.hid hR
  have HC := Lib.hid (fun (i : Nat) (hi : i < n) => ints_at ho hn hi)
  have HN := Lib.hid hn
  clear ho hn hR
  go_enter Tryz.func54, Tryz.ntmps54
  go_wp2_with fail
  go_loopg [8] n (fun g kv wr => ∃ k : Nat, k ≤ n ∧ g = n - k ∧ kv = .int .i64 (k : Nat) ∧ wr = w0 ∧ Hid (∀ j, j < k → hs.getD j 0 < 2))
  case atStart => exact ⟨0, by omega, by omega, rfl, rfl, Lib.hid (fun j hj => by omega)⟩
  case round =>
    obtain ⟨k, hk, rfl, rfl, rfl, hst⟩ := hrel
    by_cases hlt : k < n
    · have hkI : (k : Int) < (n : Int) := by omega
      have dk : decide ((k : Int) < (n : Int)) = true := decide_eq_true hkI
      obtain ⟨g, rfl, hcl⟩ := HC.out k hlt
      obtain ⟨h, hh⟩ : ∃ h, h = hs.getD k 0 := ⟨_, rfl⟩
      rw [← hh] at hcl
      have HH := Lib.hid hh
      clear hh
      go_wp2_with fail
      refine (held1_any h _).mono ?_
      rintro e w1 ⟨rfl, rfl⟩
      by_cases h2 : 2 ≤ h
      · rw [decide_eq_true h2]
        have HX : Hid (R = (k : Int)) := Lib.hid (by
          have := heldN_eq (hs := hs) (k := k) (by rw [← HN.out]; omega) hst.out (fun _ => by rw [← HH.out]; exact h2)
          rw [HR.out, this, if_pos hlt])
        clear h2
        go_wp2_with fail
        go_ret
        exact ⟨ret_int (by rw [HX.out]), rfl⟩
      · rw [decide_eq_false h2]
        have HX : Hid (∀ j, j < k + 1 → hs.getD j 0 < 2) := Lib.hid (fun j hj => by
          rcases Nat.lt_or_eq_of_le (Nat.lt_succ_iff.1 hj) with h1 | rfl
          · exact hst.out j h1
          · rw [← HH.out]; omega)
        clear h2
        go_wp2_with fail
        go_roundg (n - (k + 1))
        case measure => omega
        case rel => exact ⟨k + 1, by omega, rfl, by go_num, rfl, HX⟩
    · obtain rfl : k = n := by omega
      have dk : decide ((k : Int) < (k : Int)) = false := decide_eq_false (by omega)
      have HX : Hid (R = -1) := Lib.hid (by
        have := heldN_eq (hs := hs) (k := k) (by rw [← HN.out]; omega) hst.out (fun h => by rw [← HN.out] at h; omega)
        rw [HR.out, this, if_neg (by omega)])
      clear hst
      go_wp2_with fail
      go_ret
      exact ⟨ret_int (by rw [HX.out]), rfl⟩
/-- What Held answers. -/
def HeldV (w : World) (p : Pl) (o : Option (Ty × List Int)) (e : Ending) (w' : World) : Prop := KB F0 w w' ∧
  match o with
  | none => e = .returned (.tuple #[.agg #[.int .i64 0, .slice none 0 0], .int .i64 2])
  | some x => ∃ v, e = .returned (.tuple #[.agg #[.int .i64 p.loc, v], .int .i64 0]) ∧ OwnI w' w.heap.size v (p.path.take (heldN x.2))
theorem heldV_none {w w' : World} {p : Pl} {o : Option (Ty × List Int)} (h : o = none) (hk : KB F0 w w') : HeldV w p o (.returned (.tuple #[.agg #[.int .i64 0, .slice none 0 0], .int .i64 2])) w' := by subst h; exact ⟨hk, rfl⟩
theorem heldV_some {w w' : World} {p : Pl} {o : Option (Ty × List Int)} {x : Ty × List Int} {l : Int} {v : Value} (h : o = some x) (hl : l = p.loc) (hk : KB F0 w w') (hv : OwnI w' w.heap.size v (p.path.take (heldN x.2))) : HeldV w p o (.returned (.tuple #[.agg #[.int .i64 l, v], .int .i64 0])) w' := by subst h hl; exact ⟨hk, v, rfl, hv⟩
set_option maxRecDepth 100000 in
set_option maxHeartbeats 64000000 in
theorem plHeld_any (S : List (List Ty)) (hn : S.length ≤ 1000000) (hl : ∀ i, (fds S i).length ≤ 1000000) (sa : Option Addr) (sc : Nat) (hsc : S.length ≤ sc) (L : List Ty) (hll : L.length ≤ 1000000) (la : Option Addr) (lc : Nat) (p : Pl) (pa : Option Addr) (pc : Nat) (w : World) (hS : StsAt 49 w sa S) (hL : TysAt 49 w la L) (hp : PlAt w p pa pc) :
    Calls Tryz.prog 30 #[.slice sa S.length sc, .slice la L.length lc, plV p pa pc] w (HeldV w p (wkP S L p)) := by
  obtain ⟨w0, rfl⟩ : ∃ w0, w0 = w := ⟨_, rfl⟩
  obtain ⟨hk, hb1, hb2⟩ := new2 w0 #[.int .i64 p.loc, .slice pa p.path.length pc] #[.int .i64 0, .slice none 0 0] 26 26
  obtain ⟨W, hW⟩ : ∃ W, W = ((w0.alloc (.cells #[.int .i64 p.loc, .slice pa p.path.length pc] 26)).alloc (.cells #[.int .i64 0, .slice none 0 0] 26)) := ⟨_, rfl⟩
  rw [← hW] at hk hb1 hb2
  have WK := Lib.hid (plWalk_any S hn hl sa sc hsc L hll la lc p pa pc W (hS.kbF hk) (hL.kbF hk) (hp.kbF hk))
  have hHL : Hid ((wkP S L p).isSome = true → (hows (wkP S L p)).length = p.path.length) := Lib.hid hows_len
  have CU := Lib.hid (fun (n : Nat) (hn : n ≤ p.path.length) (V : World) (hV : KB F0 W V) => cut_any p n hn pa pc V (hp.kbF (hk.trans hV)))
  have hNp : p.path.length ≤ 100000 := hp.small
  obtain ⟨zs, hzs⟩ : ∃ z, z = p.path := ⟨_, rfl⟩
  unfold plV at WK CU ⊢
  obtain ⟨o, ho⟩ : ∃ o, o = wkP S L p := ⟨_, rfl⟩
  rw [← ho] at WK hHL ⊢
  have x0 : W.cell? ⟨w0.heap.size, 0, none⟩ = some (.int .i64 p.loc) := blk_cell hb1 0
  have x1 : W.cell? ⟨w0.heap.size, 1, none⟩ = some (.slice pa p.path.length pc) := blk_cell hb1 1
  have HB := Lib.hid (And.intro hk (And.intro hb1 hb2))
  have HW := Lib.hid hW
  generalize S.length = nS at *
  generalize L.length = nL at *
  obtain ⟨N, hN⟩ : ∃ N, N = p.path.length := ⟨_, rfl⟩
  obtain ⟨x, hx⟩ : ∃ x, x = p.loc := ⟨_, rfl⟩
  rw [← hN, ← hx]
  rw [← hN, ← hx] at WK CU HB HW
  rw [← hN] at hHL hNp x1
  rw [← hx] at x0
  have HE := Lib.hid (And.intro hN (And.intro hx hzs))
  clear hk hb1 hb2 hW hS hL hp hn hl ho hN hx hzs
  go_enter Tryz.func30, Tryz.ntmps30
  go_upto_region 1 with fail
  rw [← HW.out]
  go_wp2_with fail
  refine WK.out.mono ?_
  rintro e w1 hE
  obtain ⟨k, m, r, s, va, vn, vc, ga, gc, rfl, ho, k1⟩ := wkV_of hE
  obtain ⟨w2, hw2⟩ : ∃ w2, w2 = w1.alloc (.cells #[.int .u8 k, .bool m, .int .i64 r, .int .i64 s, .slice va vn vc] 36) := ⟨_, rfl⟩
  have k2 := (KB.refl F0 w1).alloc (.cells #[.int .u8 k, .bool m, .int .i64 r, .int .i64 s, .slice va vn vc] 36)
  rw [← hw2] at k2
  have ho2 := own_kb ho k2 (fun _ _ x => x)
  have H2 := Lib.hid (And.intro (k1.trans k2) ho2)
  have HW2 := Lib.hid hw2
  have HC := Lib.hid (And.intro x0 x1)
  have hb2 := H2.out.1.heap (fun x => x) HB.out.2.2
  have HB2 := Lib.hid hb2
  clear hE ho k1 k2 ho2 hw2 x0 x1 WK
  cases o with
  | none =>
    simp only [Option.isSome_none]
    go_upto_region 2 with fail
    rw [← HW2.out]
    have y0 : w2.cell? ⟨w0.heap.size + 1, 0, none⟩ = some (.int .i64 0) := blk_cell hb2 0
    have y1 : w2.cell? ⟨w0.heap.size + 1, 1, none⟩ = some (.slice none 0 0) := blk_cell hb2 1
    have f0 := blk_frozen hb2 0
    have f1 := blk_frozen hb2 1
    clear hb2
    go_wp2_with fail
    refine ret_pl2 (X := w0.heap.size + 1) rfl rfl rfl (setCell_blk (i := 1) (setCell_blk (i := 0) HB2.out (.int .i64 0)) (.slice none 0 0)) rfl ?_
    exact heldV_none rfl (kb_new (kb_new (HB.out.1.trans H2.out.1) (Nat.le_succ _) 0 _) (Nat.le_succ _) 1 _)
  | some xs =>
    have hlen : (hows (some xs)).length = N := hHL.out rfl
    have HLEN := Lib.hid hlen
    rw [hlen] at H2 ⊢
    have IX := Lib.hid (fun (V : World) (hV : KB F0 w2 V) => indexInt_any (hows (some xs)) _ ga gc N HLEN.out.symm (by omega) V (own_kb H2.out.2 hV (fun _ _ x => x)))
    simp only [Option.isSome_some]
    clear hlen hb2
    go_upto_region 2 with fail
    rw [← HW2.out]
    go_wp2_with fail
    refine (IX.out w2 (KB.refl _ _)).mono ?_
    rintro e w3 ⟨rfl, rfl⟩
    obtain ⟨h, hh⟩ : ∃ h, h = heldN (hows (some xs)) := ⟨_, rfl⟩
    rw [← hh]
    have hhN : h ≤ N := by rw [hh, ← HLEN.out]; exact heldN_le _
    have HH := Lib.hid hh
    have CUT := Lib.hid (CU.out h hhN)
    clear hh
    have x0' := H2.out.1.cell (p := ⟨w0.heap.size, 0, none⟩) (fun x => x) HC.out.1
    have x1' := H2.out.1.cell (p := ⟨w0.heap.size, 1, none⟩) (fun x => x) HC.out.2
    by_cases hlt : h < N
    · rw [if_pos hlt]
      have d1 : decide ((h : Int) < 0) = false := decide_eq_false (by omega)
      go_wp2_with fail
      refine (CUT.out _ H2.out.1).mono ?_
      rintro e w4 ⟨v, rfl, ho4, k4⟩
      have HO4 := Lib.hid ho4
      obtain ⟨a, ln, n, rfl⟩ : ∃ a ln n, v = .slice a ln n := by
        obtain ⟨a, n, e⟩ := own_lenP ho4
        exact ⟨a, _, n, e⟩
      have hb4 := k4.heap (fun x => x) HB2.out
      have y0 : w4.cell? ⟨w0.heap.size + 1, 0, none⟩ = some (.int .i64 0) := blk_cell hb4 0
      have y1 : w4.cell? ⟨w0.heap.size + 1, 1, none⟩ = some (.slice none 0 0) := blk_cell hb4 1
      have f0 := blk_frozen hb4 0
      have f1 := blk_frozen hb4 1
      have H4 := Lib.hid (And.intro ((HB.out.1.trans H2.out.1).trans k4) (And.intro hb4 k4))
      clear x0' x1' k4 hb4 ho4
      go_wp2_with fail
      refine ret_pl2 (X := w0.heap.size + 1) rfl rfl rfl (setCell_blk (i := 1) (setCell_blk (i := 0) H4.out.2.1 (.int .i64 x)) (.slice a ln n)) rfl ?_
      refine heldV_some rfl HE.out.2.1 (kb_new (kb_new H4.out.1 (Nat.le_succ _) 0 _) (Nat.le_succ _) 1 _) ?_
      have h9 := HO4.out.kb ((kb_set w4 (w0.heap.size + 1) 0 (.int .i64 x)).trans (kb_set _ (w0.heap.size + 1) 1 (.slice a ln n))) (fun g e1 e2 => by
        obtain ⟨cur, h1, -⟩ := own_block HO4.out e1
        rw [e2, H4.out.2.1] at h1
        simp only [Option.some.injEq, Obj.cells.injEq] at h1
        exact absurd h1.2.1 (by decide))
      have h10 : heldN xs.2 = _ := HH.out.symm
      rw [h10]
      exact own_base h9 (HB.out.1.trans H2.out.1).size
    · rw [if_neg hlt]
      have hhe : h = N := by omega
      clear hlt
      subst hhe
      go_wp2_with fail
      refine (CUT.out _ H2.out.1).mono ?_
      rintro e w4 ⟨v, rfl, ho4, k4⟩
      have HO4 := Lib.hid ho4
      obtain ⟨a, ln, n, rfl⟩ : ∃ a ln n, v = .slice a ln n := by
        obtain ⟨a, n, e⟩ := own_lenP ho4
        exact ⟨a, _, n, e⟩
      have hb4 := k4.heap (fun x => x) HB2.out
      have y0 : w4.cell? ⟨w0.heap.size + 1, 0, none⟩ = some (.int .i64 0) := blk_cell hb4 0
      have y1 : w4.cell? ⟨w0.heap.size + 1, 1, none⟩ = some (.slice none 0 0) := blk_cell hb4 1
      have f0 := blk_frozen hb4 0
      have f1 := blk_frozen hb4 1
      have H4 := Lib.hid (And.intro ((HB.out.1.trans H2.out.1).trans k4) (And.intro hb4 k4))
      clear x0' x1' k4 hb4 ho4
      go_wp2_with fail
      refine ret_pl2 (X := w0.heap.size + 1) rfl rfl rfl (setCell_blk (i := 1) (setCell_blk (i := 0) H4.out.2.1 (.int .i64 x)) (.slice a ln n)) rfl ?_
      refine heldV_some rfl HE.out.2.1 (kb_new (kb_new H4.out.1 (Nat.le_succ _) 0 _) (Nat.le_succ _) 1 _) ?_
      have h9 := HO4.out.kb ((kb_set w4 (w0.heap.size + 1) 0 (.int .i64 x)).trans (kb_set _ (w0.heap.size + 1) 1 (.slice a ln n))) (fun g e1 e2 => by
        obtain ⟨cur, h1, -⟩ := own_block HO4.out e1
        rw [e2, H4.out.2.1] at h1
        simp only [Option.some.injEq, Obj.cells.injEq] at h1
        exact absurd h1.2.1 (by decide))
      have h10 : heldN xs.2 = _ := HH.out.symm
      rw [h10]
      exact own_base h9 (HB.out.1.trans H2.out.1).size
end Go.Proofs.YtpigppghcghpbaaGreatDoor

namespace Go.Proofs.YtpigppghcghpbaaGreatDoor
open Go.RowKit

theorem walkN_take {S : List (List Ty)} {t0 : Ty} {path : List Int} {n : Nat} : ∀ {i : Nat}, i ≤ n → walkN S t0 (path.take n) i = walkN S t0 path i := by
  intro i
  induction i with
  | zero => intro _; rfl
  | succ i ih =>
    intro hi
    have hg : (path.take n).getD i 0 = path.getD i 0 := by
      rw [List.getD_eq_getElem?_getD, List.getD_eq_getElem?_getD, List.getElem?_take_of_lt (by omega)]
    simp only [walkN, ih (by omega), hg]
theorem walkN_pre {S : List (List Ty)} {t0 : Ty} {path : List Int} : ∀ {j : Nat} {x : Ty × List Int}, walkN S t0 path j = some x → ∀ i, i ≤ j → ∃ t, walkN S t0 path i = some (t, x.2.take i) := by
  intro j
  induction j with
  | zero =>
    intro x h i hi
    obtain rfl : i = 0 := by omega
    exact ⟨t0, by simp [walkN]⟩
  | succ j ih =>
    intro x h i hi
    simp only [walkN] at h
    cases hw : walkN S t0 path j with
    | none => rw [hw] at h; cases h
    | some y =>
      have hfull := h
      rw [hw] at h
      simp only [Option.bind_some, Option.map_eq_some_iff] at h
      obtain ⟨z, hz, e⟩ := h
      have hl : y.2.length = j := walkN_len (t := y.1) (hs := y.2) hw
      have e2 : x.2 = y.2 ++ [z.2] := by rw [← e]
      rcases Nat.lt_or_eq_of_le hi with h1 | rfl
      · obtain ⟨t, ht⟩ := ih hw i (by omega)
        refine ⟨t, ?_⟩
        rw [e2, List.take_append_of_le_length (by omega)]; exact ht
      · refine ⟨x.1, ?_⟩
        rw [List.take_of_length_le (by rw [e2, List.length_append, hl]; simp)]
        simp only [walkN]; exact hfull
/-- The way of a place's first steps. -/
theorem wkP_cut {S : List (List Ty)} {L : List Ty} {p : Pl} (h : (wkP S L p).isSome = true) {n : Nat} (hn : n ≤ p.path.length) : (wkP S L (cutP p n)).isSome = true ∧ hows (wkP S L (cutP p n)) = (hows (wkP S L p)).take n := by
  by_cases hm : MayP S L p
  · have hm' : MayP S L (cutP p n) := ⟨hm.1, by show (p.path.take n).length ≤ 8; rw [List.length_take]; have := hm.2.1; omega, hm.2.2⟩
    rw [wkP_pos hm] at h ⊢
    rw [wkP_pos hm']
    obtain ⟨x, hx⟩ := Option.isSome_iff_exists.1 h
    have hl : (cutP p n).path.length = n := by show (p.path.take n).length = n; rw [List.length_take]; omega
    rw [hl]
    obtain ⟨t, ht⟩ := walkN_pre hx n hn
    have e : walkN S (L.getD (cutP p n).loc.toNat ty0) (cutP p n).path n = some (t, x.2.take n) := by
      show walkN S (L.getD p.loc.toNat ty0) (p.path.take n) n = _
      rw [walkN_take (Nat.le_refl _)]; exact ht
    rw [e, hx]
    exact ⟨rfl, rfl⟩
  · rw [wkP_neg hm] at h; cases h
theorem pre_cut {p q : Pl} (h : preB p q = true) : p = cutP q p.path.length := by
  unfold preB at h
  simp only [Bool.and_eq_true, decide_eq_true_eq] at h
  obtain ⟨h1, -, h3⟩ := h
  obtain ⟨l, xs⟩ := p
  simp only at h1 h3
  unfold cutP
  simp only [h1, h3]
/-- The ways of a prefix. -/
theorem hows_pre {S : List (List Ty)} {L : List Ty} {p q : Pl} (h : preB p q = true) (hq : (wkP S L q).isSome = true) : hows (wkP S L p) = (hows (wkP S L q)).take p.path.length := by
  rw [pre_cut h]
  have := (wkP_cut hq (n := p.path.length) (preB_le h)).2
  rw [this]
  show _ = (hows (wkP S L q)).take (q.path.take p.path.length).length
  rw [List.length_take, Nat.min_eq_left (preB_le h)]
theorem all_mono {hs : List Int} {d e : Int} (hde : d ≤ e) (h : hs.all (fun x => decide (x ≤ d - 1)) = true) : hs.all (fun x => decide (x ≤ e - 1)) = true := by
  rw [List.all_eq_true] at *
  intro x hx
  have := h x hx
  simp only [decide_eq_true_eq] at *
  omega
theorem win_mono {p q : Pl} {hs : List Int} {d e : Int} (hde : d ≤ e) (h : winB p q hs d = true) : winB p q hs e = true := by
  unfold winB at *
  simp only [Bool.and_eq_true] at *
  exact ⟨h.1, all_mono hde h.2⟩
theorem win_pre {p q : Pl} {hs : List Int} {d : Int} (h : winB p q hs d = true) : preB p q = true := by
  unfold winB at h
  simp only [Bool.and_eq_true] at h
  exact h.1
theorem all_split {hs : List Int} {a b : Nat} (hab : a ≤ b) (P : Int → Bool) : (hs.drop a).all P = (((hs.take b).drop a).all P && (hs.drop b).all P) := by
  rw [← List.all_append]
  congr 1
  have h1 : hs.drop a = (hs.take b ++ hs.drop b).drop a := by rw [List.take_append_drop]
  rw [h1]
  by_cases hb : b ≤ hs.length
  · rw [List.drop_append_of_le_length (by rw [List.length_take]; omega)]
  · have e : hs.drop b = [] := List.drop_eq_nil_of_le (by omega)
    rw [e]; simp
theorem win_goes {S : List (List Ty)} {L : List Ty} {p q r : Pl} {d : Int} (h1 : preB p q = true) (h2 : preB q r = true) (hr : (wkP S L r).isSome = true) :
    winB p r (hows (wkP S L r)) d = (winB p q (hows (wkP S L q)) d && winB q r (hows (wkP S L r)) d) := by
  unfold winB
  rw [h1, h2, preB_trans h1 h2, Bool.true_and, Bool.true_and, Bool.true_and, hows_pre h2 hr, ← all_split (preB_le h1)]
/-- The place's local alone. -/
def bareP (p : Pl) : Pl := ⟨p.loc, []⟩
theorem bare_cut (p : Pl) : bareP p = cutP p 0 := rfl
theorem bare_preB (p q : Pl) (h : p.loc = q.loc) : preB (bareP p) q = true := by unfold preB bareP; simp [h]
theorem cut_preB (p : Pl) {n : Nat} (hn : n ≤ p.path.length) : preB (cutP p n) p = true := by
  unfold preB cutP
  have : (p.path.take n).length = n := by rw [List.length_take]; omega
  simp [this, hn]
theorem tw_all {p : Int → Bool} : ∀ {l : List Int}, ∀ x ∈ l.takeWhile p, p x = true := by
  intro l
  induction l with
  | nil => intro x hx; cases hx
  | cons a l ih =>
    intro x hx
    rw [List.takeWhile_cons] at hx
    split at hx
    · rename_i h
      rcases List.mem_cons.1 hx with rfl | hx
      · exact h
      · exact ih x hx
    · cases hx
theorem tw_self {p : Int → Bool} : ∀ {l : List Int}, (∀ x ∈ l, p x = true) → l.takeWhile p = l := by
  intro l
  induction l with
  | nil => intro _; rfl
  | cons a l ih =>
    intro h
    rw [List.takeWhile_cons, if_pos (h a List.mem_cons_self), ih (fun x hx => h x (List.mem_cons_of_mem _ hx))]
theorem heldN_take (hs : List Int) : heldN (hs.take (heldN hs)) = heldN hs := by
  unfold heldN
  have h : hs.take (hs.takeWhile fun h => decide (h < 2)).length = hs.takeWhile fun h => decide (h < 2) := by
    have := List.takeWhile_append_dropWhile (p := fun h : Int => decide (h < 2)) (l := hs)
    conv => lhs; arg 2; rw [← this]
    rw [List.take_left]
  rw [h]
  congr 1
  exact tw_self tw_all
theorem held_all (hs : List Int) : (hs.take (heldN hs)).all (fun x => decide (x ≤ 2 - 1)) = true := by
  rw [List.all_eq_true]
  intro x hx
  unfold heldN at hx
  have h : hs.take (hs.takeWhile fun h => decide (h < 2)).length = hs.takeWhile fun h => decide (h < 2) := by
    have := List.takeWhile_append_dropWhile (p := fun h : Int => decide (h < 2)) (l := hs)
    conv => lhs; arg 2; rw [← this]
    rw [List.take_left]
  rw [h] at hx
  have := tw_all x hx
  simp only [decide_eq_true_eq] at *
  omega
theorem held_full (hs : List Int) : hs.all (fun x => decide (x ≤ 2 - 1)) = decide (heldN hs = hs.length) := by
  rw [Bool.eq_iff_iff, List.all_eq_true]
  simp only [decide_eq_true_eq]
  constructor
  · intro h
    unfold heldN
    rw [tw_self (fun x hx => by have := h x hx; simp; omega)]
  · intro h x hx
    have h1 := held_all hs
    rw [h, List.take_length, List.all_eq_true] at h1
    have := h1 x hx
    simpa using this
end Go.Proofs.YtpigppghcghpbaaGreatDoor

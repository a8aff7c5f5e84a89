/- place.Held at any structs. loanwordref09.Within at any structs. -/
import Derived.Test.YtpigppghcghpbaaGreatDoorPwG
import Derived.Test.YtpigppghcghpbaaGreatDoorMg35
namespace Go.Proofs.YtpigppghcghpbaaGreatDoor
open Go.RowKit

/-- How many steps from the first on go through no reference. -/
def heldN (hs : List Int) : Nat := (hs.takeWhile fun h => decide (h < 2)).length
theorem heldN_eq : ∀ {hs : List Int} {k : Nat}, k ≤ hs.length → (∀ j, j < k → hs.getD j 0 < 2) → (k < hs.length → 2 ≤ hs.getD k 0) → heldN hs = k := by
  intro hs
  induction hs with
  | nil => intro k hk _ _; have : k = 0 := by simpa using hk
           subst this; rfl
  | cons h hs ih =>
    intro k hk h1 h2
    unfold heldN
    cases k with
    | zero =>
      have := h2 (by simp)
      simp only [List.getD_cons_zero] at this
      rw [List.takeWhile_cons, if_neg (by simp; omega)]; rfl
    | succ k =>
      have h0 := h1 0 (by omega)
      simp only [List.getD_cons_zero] at h0
      rw [List.takeWhile_cons, if_pos (by simpa using h0), List.length_cons]
      have := ih (k := k) (by simpa using hk) (fun j hj => by have := h1 (j + 1) (by omega); simpa using this) (fun hk' => by have := h2 (by simpa using hk'); simpa using this)
      unfold heldN at this
      rw [this]
theorem heldN_le (hs : List Int) : heldN hs ≤ hs.length := (List.takeWhile_sublist _).length_le
theorem held1_any (x : Int) (w : World) : Calls Tryz.prog 55 #[.int .i64 x] w fun e w' => e = .returned (.bool (decide (2 ≤ x))) ∧ w' = w := by
  obtain ⟨w0, rfl⟩ : ∃ w0, w0 = w := ⟨_, rfl⟩
  by_cases h : 2 ≤ x
  · rw [decide_eq_true h]
    have d : decide (2 ≤ x) = true := decide_eq_true h
    go_enter Tryz.func55, Tryz.ntmps55
    go_wp2_with fail
    go_ret
    exact ⟨rfl, rfl⟩
  · rw [decide_eq_false h]
    have d : decide (2 ≤ x) = false := decide_eq_false h
    go_enter Tryz.func55, Tryz.ntmps55
    go_wp2_with fail
    go_ret
    exact ⟨rfl, rfl⟩
set_option maxRecDepth 100000 in
set_option maxHeartbeats 8000000 in
theorem indexInt_any (hs : List Int) (B : Nat) (ga : Option Addr) (gc n : Nat) (hn : n = hs.length) (hl : n ≤ 1000000) (w : World) (ho : w.ownsRow B 3 1 (.slice ga n gc) n (intsV hs)) :
    Calls Tryz.prog 54 #[.slice ga n gc, .func (.func 55) #[] #[]] w fun e w' => e = .returned (.int .i64 (if heldN hs < n then (heldN hs : Int) else -1)) ∧ w' = w := by
  obtain ⟨w0, rfl⟩ : ∃ w0, w0 = w := ⟨_, rfl⟩
  obtain ⟨R, hR⟩ : ∃ R : Int, R = (if heldN hs < n then (heldN hs : Int) else -1) := ⟨_, rfl⟩
  rw [← hR]
  have HR := Lib.hid hR
  have HC := Lib.hid (fun (i : Nat) (hi : i < n) => ints_at ho hn hi)
  have HN := Lib.hid hn
  clear ho hn hR
  go_enter Tryz.func54, Tryz.ntmps54
  go_wp2_with fail
  go_loopg [8] n (fun g kv wr => ∃ k : Nat, k ≤ n ∧ g = n - k ∧ kv = .int .i64 (k : Nat) ∧ wr = w0 ∧ Hid (∀ j, j < k → hs.getD j 0 < 2))
  case atStart => exact ⟨0, by omega, by omega, rfl, rfl, Lib.hid (fun j hj => by omega)⟩
  case round =>
    obtain ⟨k, hk, rfl, rfl, rfl, hst⟩ := hrel
    by_cases hlt : k < n
    · have hkI : (k : Int) < (n : Int) := by omega
      have dk : decide ((k : Int) < (n : Int)) = true := decide_eq_true hkI
      obtain ⟨g, rfl, hcl⟩ := HC.out k hlt
      obtain ⟨h, hh⟩ : ∃ h, h = hs.getD k 0 := ⟨_, rfl⟩
      rw [← hh] at hcl
      have HH := Lib.hid hh
      clear hh
      go_wp2_with fail
      refine (held1_any h _).mono ?_
      rintro e w1 ⟨rfl, rfl⟩
      by_cases h2 : 2 ≤ h
      · rw [decide_eq_true h2]
        have HX : Hid (R = (k : Int)) := Lib.hid (by
          have := heldN_eq (hs := hs) (k := k) (by rw [← HN.out]; omega) hst.out (fun _ => by rw [← HH.out]; exact h2)
          rw [HR.out, this, if_pos hlt])
        clear h2
        go_wp2_with fail
        go_ret
        exact ⟨ret_int (by rw [HX.out]), rfl⟩
      · rw [decide_eq_false h2]
        have HX : Hid (∀ j, j < k + 1 → hs.getD j 0 < 2) := Lib.hid (fun j hj => by
          rcases Nat.lt_or_eq_of_le (Nat.lt_succ_iff.1 hj) with h1 | rfl
          · exact hst.out j h1
          · rw [← HH.out]; omega)
        clear h2
        go_wp2_with fail
        go_roundg (n - (k + 1))
        case measure => omega
        case rel => exact ⟨k + 1, by omega, rfl, by go_num, rfl, HX⟩
    · obtain rfl : k = n := by omega
      have dk : decide ((k : Int) < (k : Int)) = false := decide_eq_false (by omega)
      have HX : Hid (R = -1) := Lib.hid (by
        have := heldN_eq (hs := hs) (k := k) (by rw [← HN.out]; omega) hst.out (fun h => by rw [← HN.out] at h; omega)
        rw [HR.out, this, if_neg (by omega)])
      clear hst
      go_wp2_with fail
      go_ret
      exact ⟨ret_int (by rw [HX.out]), rfl⟩
/-- What Held answers. -/
def HeldV (w : World) (p : Pl) (o : Option (Ty × List Int)) (e : Ending) (w' : World) : Prop := KB F0 w w' ∧
  match o with
  | none => e = .returned (.tuple #[.agg #[.int .i64 0, .slice none 0 0], .int .i64 2])
  | some x => ∃ v, e = .returned (.tuple #[.agg #[.int .i64 p.loc, v], .int .i64 0]) ∧ OwnI w' w.heap.size v (p.path.take (heldN x.2))
theorem heldV_none {w w' : World} {p : Pl} {o : Option (Ty × List Int)} (h : o = none) (hk : KB F0 w w') : HeldV w p o (.returned (.tuple #[.agg #[.int .i64 0, .slice none 0 0], .int .i64 2])) w' := by subst h; exact ⟨hk, rfl⟩
theorem heldV_some {w w' : World} {p : Pl} {o : Option (Ty × List Int)} {x : Ty × List Int} {l : Int} {v : Value} (h : o = some x) (hl : l = p.loc) (hk : KB F0 w w') (hv : OwnI w' w.heap.size v (p.path.take (heldN x.2))) : HeldV w p o (.returned (.tuple #[.agg #[.int .i64 l, v], .int .i64 0])) w' := by subst h hl; exact ⟨hk, v, rfl, hv⟩
set_option maxRecDepth 100000 in
set_option maxHeartbeats 64000000 in
theorem plHeld_any (S : List (List Ty)) (hn : S.length ≤ 1000000) (hl : ∀ i, (fds S i).length ≤ 1000000) (sa : Option Addr) (sc : Nat) (hsc : S.length ≤ sc) (L : List Ty) (hll : L.length ≤ 1000000) (la : Option Addr) (lc : Nat) (p : Pl) (pa : Option Addr) (pc : Nat) (w : World) (hS : StsAt 49 w sa S) (hL : TysAt 49 w la L) (hp : PlAt w p pa pc) :
    Calls Tryz.prog 30 #[.slice sa S.length sc, .slice la L.length lc, plV p pa pc] w (HeldV w p (wkP S L p)) := by
  obtain ⟨w0, rfl⟩ : ∃ w0, w0 = w := ⟨_, rfl⟩
  obtain ⟨hk, hb1, hb2⟩ := new2 w0 #[.int .i64 p.loc, .slice pa p.path.length pc] #[.int .i64 0, .slice none 0 0] 26 26
  obtain ⟨W, hW⟩ : ∃ W, W = ((w0.alloc (.cells #[.int .i64 p.loc, .slice pa p.path.length pc] 26)).alloc (.cells #[.int .i64 0, .slice none 0 0] 26)) := ⟨_, rfl⟩
  rw [← hW] at hk hb1 hb2
  have WK := Lib.hid (plWalk_any S hn hl sa sc hsc L hll la lc p pa pc W (hS.kbF hk) (hL.kbF hk) (hp.kbF hk))
  have hHL : Hid ((wkP S L p).isSome = true → (hows (wkP S L p)).length = p.path.length) := Lib.hid hows_len
  have CU := Lib.hid (fun (n : Nat) (hn : n ≤ p.path.length) (V : World) (hV : KB F0 W V) => cut_any p n hn pa pc V (hp.kbF (hk.trans hV)))
  have hNp : p.path.length ≤ 100000 := hp.small
  obtain ⟨zs, hzs⟩ : ∃ z, z = p.path := ⟨_, rfl⟩
  unfold plV at WK CU ⊢
  obtain ⟨o, ho⟩ : ∃ o, o = wkP S L p := ⟨_, rfl⟩
  rw [← ho] at WK hHL ⊢
  have x0 : W.cell? ⟨w0.heap.size, 0, none⟩ = some (.int .i64 p.loc) := blk_cell hb1 0
  have x1 : W.cell? ⟨w0.heap.size, 1, none⟩ = some (.slice pa p.path.length pc) := blk_cell hb1 1
  have HB := Lib.hid (And.intro hk (And.intro hb1 hb2))
  have HW := Lib.hid hW
  generalize S.length = nS at *
  generalize L.length = nL at *
  obtain ⟨N, hN⟩ : ∃ N, N = p.path.length := ⟨_, rfl⟩
  obtain ⟨x, hx⟩ : ∃ x, x = p.loc := ⟨_, rfl⟩
  rw [← hN, ← hx]
  rw [← hN, ← hx] at WK CU HB HW
  rw [← hN] at hHL hNp x1
  rw [← hx] at x0
  have HE := Lib.hid (And.intro hN (And.intro hx hzs))
  clear hk hb1 hb2 hW hS hL hp hn hl ho hN hx hzs
  go_enter Tryz.func30, Tryz.ntmps30
  go_upto_region 1 with fail
  rw [← HW.out]
  go_wp2_with fail
  refine WK.out.mono ?_
  rintro e w1 hE
  obtain ⟨k, m, r, s, va, vn, vc, ga, gc, rfl, ho, k1⟩ := wkV_of hE
  obtain ⟨w2, hw2⟩ : ∃ w2, w2 = w1.alloc (.cells #[.int .u8 k, .bool m, .int .i64 r, .int .i64 s, .slice va vn vc] 36) := ⟨_, rfl⟩
  have k2 := (KB.refl F0 w1).alloc (.cells #[.int .u8 k, .bool m, .int .i64 r, .int .i64 s, .slice va vn vc] 36)
  rw [← hw2] at k2
  have ho2 := own_kb ho k2 (fun _ _ x => x)
  have H2 := Lib.hid (And.intro (k1.trans k2) ho2)
  have HW2 := Lib.hid hw2
  have HC := Lib.hid (And.intro x0 x1)
  have hb2 := H2.out.1.heap (fun x => x) HB.out.2.2
  have HB2 := Lib.hid hb2
  clear hE ho k1 k2 ho2 hw2 x0 x1 WK
  cases o with
  | none =>
    simp only [Option.isSome_none]
    go_upto_region 2 with fail
    rw [← HW2.out]
    have y0 : w2.cell? ⟨w0.heap.size + 1, 0, none⟩ = some (.int .i64 0) := blk_cell hb2 0
    have y1 : w2.cell? ⟨w0.heap.size + 1, 1, none⟩ = some (.slice none 0 0) := blk_cell hb2 1
    have f0 := blk_frozen hb2 0
    have f1 := blk_frozen hb2 1
    clear hb2
    go_wp2_with fail
    refine ret_pl2 (X := w0.heap.size + 1) rfl rfl rfl (setCell_blk (i := 1) (setCell_blk (i := 0) HB2.out (.int .i64 0)) (.slice none 0 0)) rfl ?_
    exact heldV_none rfl (kb_new (kb_new (HB.out.1.trans H2.out.1) (Nat.le_succ _) 0 _) (Nat.le_succ _) 1 _)
  | some xs =>
    have hlen : (hows (some xs)).length = N := hHL.out rfl
    have HLEN := Lib.hid hlen
    rw [hlen] at H2 ⊢
    have IX := Lib.hid (fun (V : World) (hV : KB F0 w2 V) => indexInt_any (hows (some xs)) _ ga gc N HLEN.out.symm (by omega) V (own_kb H2.out.2 hV (fun _ _ x => x)))
    simp only [Option.isSome_some]
    clear hlen hb2
    go_upto_region 2 with fail
    rw [← HW2.out]
    go_wp2_with fail
    refine (IX.out w2 (KB.refl _ _)).mono ?_
    rintro e w3 ⟨rfl, rfl⟩
    obtain ⟨h, hh⟩ : ∃ h, h = heldN (hows (some xs)) := ⟨_, rfl⟩
    rw [← hh]
    have hhN : h ≤ N := by rw [hh, ← HLEN.out]; exact heldN_le _
    have HH := Lib.hid hh
    have CUT := Lib.hid (CU.out h hhN)
    clear hh
    have x0' := H2.out.1.cell (p := ⟨w0.heap.size, 0, none⟩) (fun x => x) HC.out.1
    have x1' := H2.out.1.cell (p := ⟨w0.heap.size, 1, none⟩) (fun x => x) HC.out.2
    by_cases hlt : h < N
    · rw [if_pos hlt]
      have d1 : decide ((h : Int) < 0) = false := decide_eq_false (by omega)
      go_wp2_with fail
      refine (CUT.out _ H2.out.1).mono ?_
      rintro e w4 ⟨v, rfl, ho4, k4⟩
      have HO4 := Lib.hid ho4
      obtain ⟨a, ln, n, rfl⟩ : ∃ a ln n, v = .slice a ln n := by
        obtain ⟨a, n, e⟩ := own_lenP ho4
        exact ⟨a, _, n, e⟩
      have hb4 := k4.heap (fun x => x) HB2.out
      have y0 : w4.cell? ⟨w0.heap.size + 1, 0, none⟩ = some (.int .i64 0) := blk_cell hb4 0
      have y1 : w4.cell? ⟨w0.heap.size + 1, 1, none⟩ = some (.slice none 0 0) := blk_cell hb4 1
      have f0 := blk_frozen hb4 0
      have f1 := blk_frozen hb4 1
      have H4 := Lib.hid (And.intro ((HB.out.1.trans H2.out.1).trans k4) (And.intro hb4 k4))
      clear x0' x1' k4 hb4 ho4
      go_wp2_with fail
      refine ret_pl2 (X := w0.heap.size + 1) rfl rfl rfl (setCell_blk (i := 1) (setCell_blk (i := 0) H4.out.2.1 (.int .i64 x)) (.slice a ln n)) rfl ?_
      refine heldV_some rfl HE.out.2.1 (kb_new (kb_new H4.out.1 (Nat.le_succ _) 0 _) (Nat.le_succ _) 1 _) ?_
      have h9 := HO4.out.kb ((kb_set w4 (w0.heap.size + 1) 0 (.int .i64 x)).trans (kb_set _ (w0.heap.size + 1) 1 (.slice a ln n))) (fun g e1 e2 => by
        obtain ⟨cur, h1, -⟩ := own_block HO4.out e1
        rw [e2, H4.out.2.1] at h1
        simp only [Option.some.injEq, Obj.cells.injEq] at h1
        exact absurd h1.2.1 (by decide))
      have h10 : heldN xs.2 = _ := HH.out.symm
      rw [h10]
      exact own_base h9 (HB.out.1.trans H2.out.1).size
    · rw [if_neg hlt]
      have hhe : h = N := by omega
      clear hlt
      subst hhe
      go_wp2_with fail
      refine (CUT.out _ H2.out.1).mono ?_
      rintro e w4 ⟨v, rfl, ho4, k4⟩
      have HO4 := Lib.hid ho4
      obtain ⟨a, ln, n, rfl⟩ : ∃ a ln n, v = .slice a ln n := by
        obtain ⟨a, n, e⟩ := own_lenP ho4
        exact ⟨a, _, n, e⟩
      have hb4 := k4.heap (fun x => x) HB2.out
      have y0 : w4.cell? ⟨w0.heap.size + 1, 0, none⟩ = some (.int .i64 0) := blk_cell hb4 0
      have y1 : w4.cell? ⟨w0.heap.size + 1, 1, none⟩ = some (.slice none 0 0) := blk_cell hb4 1
      have f0 := blk_frozen hb4 0
      have f1 := blk_frozen hb4 1
      have H4 := Lib.hid (And.intro ((HB.out.1.trans H2.out.1).trans k4) (And.intro hb4 k4))
      clear x0' x1' k4 hb4 ho4
      go_wp2_with fail
      refine ret_pl2 (X := w0.heap.size + 1) rfl rfl rfl (setCell_blk (i := 1) (setCell_blk (i := 0) H4.out.2.1 (.int .i64 x)) (.slice a ln n)) rfl ?_
      refine heldV_some rfl HE.out.2.1 (kb_new (kb_new H4.out.1 (Nat.le_succ _) 0 _) (Nat.le_succ _) 1 _) ?_
      have h9 := HO4.out.kb ((kb_set w4 (w0.heap.size + 1) 0 (.int .i64 x)).trans (kb_set _ (w0.heap.size + 1) 1 (.slice a ln n))) (fun g e1 e2 => by
        obtain ⟨cur, h1, -⟩ := own_block HO4.out e1
        rw [e2, H4.out.2.1] at h1
        simp only [Option.some.injEq, Obj.cells.injEq] at h1
        exact absurd h1.2.1 (by decide))
      have h10 : heldN xs.2 = _ := HH.out.symm
      rw [h10]
      exact own_base h9 (HB.out.1.trans H2.out.1).size
end Go.Proofs.YtpigppghcghpbaaGreatDoor

namespace Go.Proofs.YtpigppghcghpbaaGreatDoor
open Go.RowKit

theorem stepP_nonneg {S : List (List Ty)} {t u : Ty} {k z : Int} (h : stepP S t k = some (u, z)) : 0 ≤ z := by
  unfold stepP at h
  split at h
  · simp only [Option.some.injEq, Prod.mk.injEq] at h; omega
  split at h
  · simp only [Option.some.injEq, Prod.mk.injEq] at h; omega
  split at h
  · simp only [Option.some.injEq, Prod.mk.injEq] at h; omega
  split at h
  · cases h
  · simp only [Option.some.injEq, Prod.mk.injEq] at h; omega
theorem walkN_nonneg {S : List (List Ty)} {t0 : Ty} {path : List Int} : ∀ {i : Nat} {t : Ty} {hs : List Int}, walkN S t0 path i = some (t, hs) → ∀ h ∈ hs, 0 ≤ h := by
  intro i
  induction i with
  | zero => intro t hs h; simp only [walkN, Option.some.injEq, Prod.mk.injEq] at h; rw [← h.2]; intro x hx; cases hx
  | succ i ih =>
    intro t hs h
    simp only [walkN] at h
    cases hw : walkN S t0 path i with
    | none => rw [hw] at h; cases h
    | some x =>
      rw [hw] at h
      simp only [Option.bind_some, Option.map_eq_some_iff, Prod.mk.injEq] at h
      obtain ⟨y, hy, -, e⟩ := h
      rw [← e]
      intro z hz
      rcases List.mem_append.1 hz with hz | hz
      · exact ih (t := x.1) (hs := x.2) hw z hz
      · simp only [List.mem_cons, List.not_mem_nil, or_false] at hz
        subst hz
        exact stepP_nonneg (u := y.1) (z := y.2) hy
theorem hows_nonneg {S : List (List Ty)} {L : List Ty} {q : Pl} : ∀ h ∈ hows (wkP S L q), 0 ≤ h := by
  by_cases hm : MayP S L q
  · rw [wkP_pos hm]
    cases hw : walkN S (L.getD q.loc.toNat ty0) q.path q.path.length with
    | none => intro h hh; cases hh
    | some x => exact walkN_nonneg (t := x.1) (hs := x.2) hw
  · rw [wkP_neg hm]; intro h hh; cases hh
set_option maxRecDepth 100000 in
set_option maxHeartbeats 64000000 in
theorem rwWithin_any (S : List (List Ty)) (hn : S.length ≤ 1000000) (hl : ∀ i, (fds S i).length ≤ 1000000) (sa : Option Addr) (sc : Nat) (hsc : S.length ≤ sc) (L : List Ty) (hll : L.length ≤ 1000000) (la : Option Addr) (lc : Nat) (p q : Pl) (pa qa : Option Addr) (pc qc : Nat) (d : Int) (w : World) (hS : StsAt 49 w sa S) (hL : TysAt 49 w la L) (hp : PlAt w p pa pc) (hq : PlAt w q qa qc) (hd : 1 ≤ d ∧ d ≤ 3) (hv : (wkP S L q).isSome = true) :
    Calls Tryz.prog 15 #[.slice sa S.length sc, .slice la L.length lc, plV p pa pc, plV q qa qc, .int .u8 d] w fun e w' => e = .returned (.bool (winB p q (hows (wkP S L q)) d)) ∧ KB F0 w w' := by
  obtain ⟨w0, rfl⟩ : ∃ w0, w0 = w := ⟨_, rfl⟩
  obtain ⟨hk, hb1, hb2⟩ := new2 w0 #[.int .i64 p.loc, .slice pa p.path.length pc] #[.int .i64 q.loc, .slice qa q.path.length qc] 26 26
  obtain ⟨W, hW⟩ : ∃ W, W = ((w0.alloc (.cells #[.int .i64 p.loc, .slice pa p.path.length pc] 26)).alloc (.cells #[.int .i64 q.loc, .slice qa q.path.length qc] 26)) := ⟨_, rfl⟩
  rw [← hW] at hk hb1 hb2
  have WK := Lib.hid (rwWalk_any S hn hl sa sc hsc L hll la lc q qa qc W (hS.kbF hk) (hL.kbF hk) (hq.kbF hk))
  have PX := Lib.hid (fun (V : World) (hV : KB F0 W V) => rprefix_any p q pa qa pc qc V (hp.kbF (hk.trans hV)) (hq.kbF (hk.trans hV)))
  have hHL : Hid ((wkP S L q).isSome = true → (hows (wkP S L q)).length = q.path.length) := Lib.hid hows_len
  have HPL : Hid (preB p q = true → p.path.length ≤ q.path.length) := Lib.hid preB_le
  have hNp : p.path.length ≤ 100000 := hp.small
  have hNq : q.path.length ≤ 100000 := hq.small
  have HNN := Lib.hid (fun h hm => hows_nonneg (S := S) (L := L) (q := q) h hm)
  obtain ⟨R, hR⟩ : ∃ R, R = winB p q (hows (wkP S L q)) d := ⟨_, rfl⟩
  rw [← hR]
  have HR := Lib.hid hR
  have HK := Lib.hid (And.intro hk (And.intro hb1 hb2))
  have HW := Lib.hid hW
  unfold plV at WK PX ⊢
  obtain ⟨oq, hoq⟩ : ∃ o, o = wkP S L q := ⟨_, rfl⟩
  rw [← hoq] at WK hHL HR HNN hv
  obtain ⟨B, hB⟩ : ∃ B, B = preB p q := ⟨_, rfl⟩
  rw [← hB] at PX HPL
  have HB := Lib.hid hB
  have p0 : W.cell? ⟨w0.heap.size, 0, none⟩ = some (.int .i64 p.loc) := blk_cell hb1 0
  have p1 : W.cell? ⟨w0.heap.size, 1, none⟩ = some (.slice pa p.path.length pc) := blk_cell hb1 1
  have q0 : W.cell? ⟨w0.heap.size + 1, 0, none⟩ = some (.int .i64 q.loc) := blk_cell hb2 0
  have q1 : W.cell? ⟨w0.heap.size + 1, 1, none⟩ = some (.slice qa q.path.length qc) := blk_cell hb2 1
  generalize S.length = nS at *
  generalize L.length = nL at *
  obtain ⟨Np, hNpe⟩ : ∃ n, n = p.path.length := ⟨_, rfl⟩
  obtain ⟨Nq, hNqe⟩ : ∃ n, n = q.path.length := ⟨_, rfl⟩
  obtain ⟨xp, hxp⟩ : ∃ n, n = p.loc := ⟨_, rfl⟩
  obtain ⟨xq, hxq⟩ : ∃ n, n = q.loc := ⟨_, rfl⟩
  rw [← hNpe, ← hNqe, ← hxp, ← hxq]
  rw [← hNpe] at HW HK p1 PX hNp HPL
  rw [← hNqe] at HW HK q1 WK PX hNq HPL hHL
  rw [← hxp] at HW HK p0 PX
  rw [← hxq] at HW HK q0 WK PX
  have HE := Lib.hid (And.intro hNpe hNqe)
  clear hk hb1 hb2 hW hS hL hp hq hR hoq hB hNpe hNqe hxp hxq hn hl
  go_enter Tryz.func15, Tryz.ntmps15
  go_upto_region 1 with fail
  rw [← HW.out]
  go_wp2_with fail
  refine WK.out.mono ?_
  rintro e w1 hE
  obtain ⟨k, m, r, s, va, vn, vc, ga, gc, rfl, ho, k1⟩ := wkV_of hE
  obtain ⟨w2, hw2⟩ : ∃ w2, w2 = w1.alloc (.cells #[.int .u8 k, .bool m, .int .i64 r, .int .i64 s, .slice va vn vc] 36) := ⟨_, rfl⟩
  have k2 := (KB.refl F0 w1).alloc (.cells #[.int .u8 k, .bool m, .int .i64 r, .int .i64 s, .slice va vn vc] 36)
  rw [← hw2] at k2
  have ho2 := own_kb ho k2 (fun _ _ x => x)
  have H2 := Lib.hid (And.intro (k1.trans k2) ho2)
  have HW2 := Lib.hid hw2
  have p0' := H2.out.1.cell (p := ⟨w0.heap.size, 0, none⟩) (fun x => x) p0
  have p1' := H2.out.1.cell (p := ⟨w0.heap.size, 1, none⟩) (fun x => x) p1
  have HC := Lib.hid (And.intro p0 (And.intro p1 (And.intro q0 q1)))
  clear hE ho k1 k2 ho2 hw2 p0 p1 q0 q1 WK
  have hlen : (hows oq).length = Nq := hHL.out hv
  have HLEN := Lib.hid hlen
  rw [hlen] at H2 ⊢
  rw [hv]
  clear hlen hv
  have HF : Hid (R = winB p q (hows oq) d) := Lib.hid HR.out
  go_upto_region 2 with fail
  rw [← HW2.out]
  obtain ⟨w3, rfl⟩ : ∃ q, q = w2 := ⟨_, rfl⟩
  have K3 := Lib.hid H2.out.1
  have HO3 := Lib.hid H2.out.2
  have q0' := K3.out.cell (p := ⟨w0.heap.size + 1, 0, none⟩) (fun x => x) HC.out.2.2.1
  have q1' := K3.out.cell (p := ⟨w0.heap.size + 1, 1, none⟩) (fun x => x) HC.out.2.2.2
  go_wp2_with fail
  refine (PX.out w3 K3.out).mono ?_
  rintro e w4 ⟨rfl, k4⟩
  have K4 := Lib.hid (K3.out.trans k4)
  have HO4 := Lib.hid (own_kb HO3.out k4 (fun _ _ x => x))
  clear k4 p0' p1' q0' q1'
  have p1' := K4.out.cell (p := ⟨w0.heap.size, 1, none⟩) (fun x => x) HC.out.2.1
  cases B with
  | false =>
    have HF2 : Hid (R = false) := Lib.hid (by rw [HF.out]; unfold winB; rw [← HB.out]; rfl)
    go_wp2_with fail
    go_ret
    exact ⟨ret_eq (by rw [HF2.out]; rfl), HK.out.1.trans K4.out⟩
  | true =>
  have hle : Np ≤ Nq := HPL.out rfl
  have HF2 : Hid (R = ((hows oq).drop Np).all (fun h => decide (h ≤ d - 1))) := Lib.hid (by rw [HF.out]; unfold winB; rw [← HB.out, Bool.true_and, HE.out.1])
  obtain ⟨hs, hhs⟩ : ∃ hs, hs = hows oq := ⟨_, rfl⟩
  rw [← hhs] at HF2 HLEN HNN
  obtain ⟨ga', gc', e9, hnc, hgm, -⟩ := own_shape HO4.out
  simp only [Value.slice.injEq, true_and] at e9
  obtain ⟨rfl, rfl⟩ := e9
  rw [← hhs] at HO4
  have HCL := Lib.hid (fun (V : World) (hV : KB F0 w4 V) (i : Nat) (hi : i < Nq) => ints_at (own_kb HO4.out hV (fun _ _ x => x)) HLEN.out.symm hi)
  unfold maxLen at hgm
  clear hhs hHL HPL PX
  go_wp2_with fail
  clear p1'
  go_loopg [14] (Nq - Np) (fun g iv wr => ∃ i : Nat, Np ≤ i ∧ i ≤ Nq ∧ g = Nq - i ∧ iv = .int .i64 (i : Nat) ∧ Hid (KB F0 w4 wr ∧ ∀ j, Np ≤ j → j < i → hs.getD j 0 ≤ d - 1))
  case atStart => exact ⟨Np, by omega, hle, rfl, rfl, Lib.hid ⟨KB.refl _ _, fun j h1 h2 => by omega⟩⟩
  case round =>
    obtain ⟨i, hNi, hi, rfl, rfl, hst⟩ := hrel
    by_cases hit : i < Nq
    · have hiI : (i : Int) < (Nq : Int) := by omega
      have dI : decide ((i : Int) < (Nq : Int)) = true := decide_eq_true hiI
      obtain ⟨g2, e2, hcl⟩ := HCL.out wr hst.out.1 i hit
      subst e2
      obtain ⟨h, hh⟩ : ∃ h, h = hs.getD i 0 := ⟨_, rfl⟩
      rw [← hh] at hcl
      have hh0 : 0 ≤ h := HNN.out h (by
        rw [hh, List.getD_eq_getElem?_getD, List.getElem?_eq_getElem (show i < hs.length by rw [HLEN.out]; exact hit)]
        exact List.getElem_mem _)
      have HH := Lib.hid hh
      clear hh
      go_wp2_with fail
      refine (rwin_any d h hd hh0 _).mono ?_
      rintro e w5 ⟨rfl, rfl⟩
      by_cases hgt : h ≤ d - 1
      · rw [decide_eq_true hgt]
        have HN : Hid (KB F0 w4 w5 ∧ ∀ j, Np ≤ j → j < i + 1 → hs.getD j 0 ≤ d - 1) := Lib.hid ⟨hst.out.1, fun j h0 hj => by
          rcases Nat.lt_or_eq_of_le (Nat.lt_succ_iff.1 hj) with h1 | rfl
          · exact hst.out.2 j h0 h1
          · rw [← HH.out]; exact hgt⟩
        clear hgt
        go_wp2_with fail
        go_roundg (Nq - (i + 1))
        case measure => omega
        case rel => exact ⟨i + 1, by omega, by omega, rfl, by go_num, HN⟩
      · rw [decide_eq_false hgt]
        have HX : Hid (R = false) := Lib.hid (by
          rw [HF2.out, all_not (j := i) hNi (by rw [HLEN.out]; exact hit) (by rw [← HH.out]; exact decide_eq_false hgt)])
        clear hgt
        go_wp2_with fail
        go_ret
        exact ⟨ret_eq (by rw [HX.out]; rfl), HK.out.1.trans (K4.out.trans hst.out.1)⟩
    · obtain rfl : i = Nq := by omega
      have dI : decide ((i : Int) < (i : Int)) = false := decide_eq_false (by omega)
      have HX : Hid (R = true) := Lib.hid (by
        rw [HF2.out, all_at (fun j h1 h2 => decide_eq_true (hst.out.2 j h1 (by rw [HLEN.out] at h2; exact h2)))])
      have HKK := Lib.hid hst.out.1
      clear hst
      go_wp2_with fail
      go_ret
      exact ⟨ret_eq (by rw [HX.out]; rfl), HK.out.1.trans (K4.out.trans HKK.out)⟩
end Go.Proofs.YtpigppghcghpbaaGreatDoor

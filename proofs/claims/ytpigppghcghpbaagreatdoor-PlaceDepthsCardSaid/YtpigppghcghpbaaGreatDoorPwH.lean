/- loanwordref09.Within at any structs. -/
import Derived.Test.YtpigppghcghpbaaGreatDoorMg35
namespace Go.Proofs.YtpigppghcghpbaaGreatDoor
open Go.RowKit

theorem stepP_nonneg {S : List (List Ty)} {t u : Ty} {k z : Int} (h : stepP S t k = some (u, z)) : 0 ≤ z := by
  unfold stepP at h
  split at h
  · simp only [Option.some.injEq, Prod.mk.injEq] at h; omega
  split at h
  · simp only [Option.some.injEq, Prod.mk.injEq] at h; omega
  split at h
  · simp only [Option.some.injEq, Prod.mk.injEq] at h; omega
  split at h
  · cases h
  · simp only [Option.some.injEq, Prod.mk.injEq] at h; omega
theorem walkN_nonneg {S : List (List Ty)} {t0 : Ty} {path : List Int} : ∀ {i : Nat} {t : Ty} {hs : List Int}, walkN S t0 path i = some (t, hs) → ∀ h ∈ hs, 0 ≤ h := by
  intro i
  induction i with
  | zero => intro t hs h; simp only [walkN, Option.some.injEq, Prod.mk.injEq] at h; rw [← h.2]; intro x hx; cases hx
  | succ i ih =>
    intro t hs h
    simp only [walkN] at h
    cases hw : walkN S t0 path i with
    | none => rw [hw] at h; cases h
    | some x =>
      rw [hw] at h
      simp only [Option.bind_some, Option.map_eq_some_iff, Prod.mk.injEq] at h
      obtain ⟨y, hy, -, e⟩ := h
      rw [← e]
      intro z hz
      rcases List.mem_append.1 hz with hz | hz
      · exact ih (t := x.1) (hs := x.2) hw z hz
      · simp only [List.mem_cons, List.not_mem_nil, or_false] at hz
        subst hz
        exact stepP_nonneg (u := y.1) (z := y.2) hy
theorem hows_nonneg {S : List (List Ty)} {L : List Ty} {q : Pl} : ∀ h ∈ hows (wkP S L q), 0 ≤ h := by
  by_cases hm : MayP S L q
  · rw [wkP_pos hm]
    cases hw : walkN S (L.getD q.loc.toNat ty0) q.path q.path.length with
    | none => intro h hh; cases hh
    | some x => exact walkN_nonneg (t := x.1) (hs := x.2) hw
  · rw [wkP_neg hm]; intro h hh; cases hh
set_option maxRecDepth 100000 in
set_option maxHeartbeats 64000000 in
theorem rwWithin_any (S : List (List Ty)) (hn : S.length ≤ 1000000) (hl : ∀ i, (fds S i).length ≤ 1000000) (sa : Option Addr) (sc : Nat) (hsc : S.length ≤ sc) (L : List Ty) (hll : L.length ≤ 1000000) (la : Option Addr) (lc : Nat) (p q : Pl) (pa qa : Option Addr) (pc qc : Nat) (d : Int) (w : World) (hS : StsAt 49 w sa S) (hL : TysAt 49 w la L) (hp : PlAt w p pa pc) (hq : PlAt w q qa qc) (hd : 1 ≤ d ∧ d ≤ 3) (hv : (wkP S L q).isSome = true) :
    Calls Tryz.prog 15 #[.slice sa S.length sc, .slice la L.length lc, plV p pa pc, plV q qa qc, .int .u8 d] w fun e w' => e = .returned (.bool (winB p q (hows (wkP S L q)) d)) ∧ KB F0 w w' := by
  obtain ⟨w0, rfl⟩ : ∃ w0, w0 = w := ⟨_, rfl⟩
  obtain ⟨hk, hb1, hb2⟩ := new2 w0 #[.int .i64 p.loc, .slice pa p.path.length pc] #[.int .i64 q.loc, .slice qa q.path.length qc] 26 26
  obtain ⟨W, hW⟩ : ∃ W, W = ((w0.alloc (.cells #[.int .i64 p.loc, .slice pa p.path.length pc] 26)).alloc (.cells #[.int .i64 q.loc, .slice qa q.path.length qc] 26)) := ⟨_, rfl⟩
  rw [← hW] at hk hb1 hb2
  have WK := Lib.hid (rwWalk_any S hn hl sa sc hsc L hll la lc q qa qc W (hS.kbF hk) (hL.kbF hk) (hq.kbF hk))
  have PX := Lib.hid (fun (V : World) (hV : KB F0 W V) => rprefix_any p q pa qa pc qc V (hp.kbF (hk.trans hV)) (hq.kbF (hk.trans hV)))
  have hHL : Hid ((wkP S L q).isSome = true → (hows (wkP S L q)).length = q.path.length) := Lib.hid hows_len
  have HPL : Hid (preB p q = true → p.path.length ≤ q.path.length) := Lib.hid preB_le
  have hNp : p.path.length ≤ 100000 := hp.small
  have hNq : q.path.length ≤ 100000 := hq.small
  have HNN := Lib.hid (fun h hm => hows_nonneg (S := S) (L := L) (q := q) h hm)
  obtain ⟨R, hR⟩ : ∃ R, R = winB p q (hows (wkP S L q)) d := ⟨_, rfl⟩
  rw [← hR]
  have HR := Lib.hid hR
  have HK := Lib.hid (And.intro hk (And.intro hb1 hb2))
  have HW := Lib.hid hW
  unfold plV at WK PX ⊢
  obtain ⟨oq, hoq⟩ : ∃ o, o = wkP S L q := ⟨_, rfl⟩
  rw [← hoq] at WK hHL HR HNN hv
  obtain ⟨B, hB⟩ : ∃ B, B = preB p q := ⟨_, rfl⟩
  rw [← hB] at PX HPL
  have HB := Lib.hid hB
  have p0 : W.cell? ⟨w0.heap.size, 0, none⟩ = some (.int .i64 p.loc) := blk_cell hb1 0
  have p1 : W.cell? ⟨w0.heap.size, 1, none⟩ = some (.slice pa p.path.length pc) := blk_cell hb1 1
  have q0 : W.cell? ⟨w0.heap.size + 1, 0, none⟩ = some (.int .i64 q.loc) := blk_cell hb2 0
  have q1 : W.cell? ⟨w0.heap.size + 1, 1, none⟩ = some (.slice qa q.path.length qc) := blk_cell hb2 1
  generalize S.length = nS at *
  generalize L.length = nL at *
  obtain ⟨Np, hNpe⟩ : ∃ n, n = p.path.length := ⟨_, rfl⟩
  obtain ⟨Nq, hNqe⟩ : ∃ n, n = q.path.length := ⟨_, rfl⟩
  obtain ⟨xp, hxp⟩ : ∃ n, n = p.loc := ⟨_, rfl⟩
  obtain ⟨xq, hxq⟩ : ∃ n, n = q.loc := ⟨_, rfl⟩
  rw [← hNpe, ← hNqe, ← hxp, ← hxq]
  rw [← hNpe] at HW HK p1 PX hNp HPL
  rw [← hNqe] at HW HK q1 WK PX hNq HPL hHL
  rw [← hxp] at HW HK p0 PX
  rw [← hxq] at HW HK q0 WK PX
  have HE := Lib.hid (And.intro hNpe hNqe)
  clear hk hb1 hb2 hW hS hL hp hq hR hoq hB hNpe hNqe hxp hxq hn hl
  go_enter Tryz.func15, Tryz.ntmps15
  go_upto_region 1 with fail
  rw [← HW.out]
  go_wp2_with fail
  refine WK.out.mono ?_
  rintro e w1 hE
  obtain ⟨k, m, r, s, va, vn, vc, ga, gc, rfl, ho, k1⟩ := wkV_of hE
  obtain ⟨w2, hw2⟩ : ∃ w2, w2 = w1.alloc (.cells #[.int .u8 k, .bool m, .int .i64 r, .int .i64 s, .slice va vn vc] 36) := ⟨_, rfl⟩
  have k2 := (KB.refl F0 w1).alloc (.cells #[.int .u8 k, .bool m, .int .i64 r, .int .i64 s, .slice va vn vc] 36)
  rw [← hw2] at k2
  have ho2 := own_kb ho k2 (fun _ _ x => x)
  have H2 := Lib.hid (And.intro (k1.trans k2) ho2)
  have HW2 := Lib.hid hw2
  have p0' := H2.out.1.cell (p := ⟨w0.heap.size, 0, none⟩) (fun x => x) p0
  have p1' := H2.out.1.cell (p := ⟨w0.heap.size, 1, none⟩) (fun x => x) p1
  have HC := Lib.hid (And.intro p0 (And.intro p1 (And.intro q0 q1)))
  clear hE ho k1 k2 ho2 hw2 p0 p1 q0 q1 WK
  have hlen : (hows oq).length = Nq := hHL.out hv
  have HLEN := Lib.hid hlen
  rw [hlen] at H2 ⊢
  rw [hv]
  clear hlen hv
  have HF : Hid (R = winB p q (hows oq) d) := Lib.hid HR.out
  go_upto_region 2 with fail
  rw [← HW2.out]
  obtain ⟨w3, rfl⟩ : ∃ q, q = w2 := ⟨_, rfl⟩
  have K3 := Lib.hid H2.out.1
  have HO3 := Lib.hid H2.out.2
  have q0' := K3.out.cell (p := ⟨w0.heap.size + 1, 0, none⟩) (fun x => x) HC.out.2.2.1
  have q1' := K3.out.cell (p := ⟨w0.heap.size + 1, 1, none⟩) (fun x => x) HC.out.2.2.2
  go_wp2_with fail
  refine (PX.out w3 K3.out).mono ?_
  rintro e w4 ⟨rfl, k4⟩
  have K4 := Lib.hid (K3.out.trans k4)
  have HO4 := Lib.hid (own_kb HO3.out k4 (fun _ _ x => x))
  clear k4 p0' p1' q0' q1'
  have p1' := K4.out.cell (p := ⟨w0.heap.size, 1, none⟩) (fun x => x) HC.out.2.1
  cases B with
  | false =>
    have HF2 : Hid (R = false) := Lib.hid (by rw [HF.out]; unfold winB; rw [← HB.out]; rfl)
    go_wp2_with fail
    go_ret
    exact ⟨ret_eq (by rw [HF2.out]; rfl), HK.out.1.trans K4.out⟩
  | true =>
  have hle : Np ≤ Nq := HPL.out rfl
  have HF2 : Hid (R = ((hows oq).drop Np).all (fun h => decide (h ≤ d - 1))) := Lib.hid (by rw [HF.out]; unfold winB; rw [← HB.out, Bool.true_and, HE.out.1])
  obtain ⟨hs, hhs⟩ : ∃ hs, hs = hows oq := ⟨_, rfl⟩
  rw [← hhs] at HF2 HLEN HNN
  obtain ⟨ga', gc', e9, hnc, hgm, -⟩ := own_shape HO4.out
  simp only [Value.slice.injEq, true_and] at e9
  obtain ⟨rfl, rfl⟩ := e9
  rw [← hhs] at HO4
  have HCL := Lib.hid (fun (V : World) (hV : KB F0 w4 V) (i : Nat) (hi : i < Nq) => ints_at (own_kb HO4.out hV (fun _ _ x => x)) HLEN.out.symm hi)
  unfold maxLen at hgm
  clear hhs hHL HPL PX
  go_wp2_with fail
  clear p1'
  go_loopg [14] (Nq - Np) (fun g iv wr => ∃ i : Nat, Np ≤ i ∧ i ≤ Nq ∧ g = Nq - i ∧ iv = .int .i64 (i : Nat) ∧ Hid (KB F0 w4 wr ∧ ∀ j, Np ≤ j → j < i → hs.getD j 0 ≤ d - 1))
  case atStart => exact ⟨Np, by omega, hle, rfl, rfl, Lib.hid ⟨KB.refl _ _, fun j h1 h2 => by omega⟩⟩
  case round =>
    obtain ⟨i, hNi, hi, rfl, rfl, hst⟩ := hrel
    by_cases hit : i < Nq
    · have hiI : (i : Int) < (Nq : Int) := by omega
      have dI : decide ((i : Int) < (Nq : Int)) = true := decide_eq_true hiI
      obtain ⟨g2, e2, hcl⟩ := HCL.out wr hst.out.1 i hit
      subst e2
      obtain ⟨h, hh⟩ : ∃ h, h = hs.getD i 0 := ⟨_, rfl⟩
      rw [← hh] at hcl
      have hh0 : 0 ≤ h := HNN.out h (by
        rw [hh, List.getD_eq_getElem?_getD, List.getElem?_eq_getElem (show i < hs.length by rw [HLEN.out]; exact hit)]
        exact List.getElem_mem _)
      have HH := Lib.hid hh
      clear hh
      go_wp2_with fail
      refine (rwin_any d h hd hh0 _).mono ?_
      rintro e w5 ⟨rfl, rfl⟩
      by_cases hgt : h ≤ d - 1
      · rw [decide_eq_true hgt]
        have HN : Hid (KB F0 w4 w5 ∧ ∀ j, Np ≤ j → j < i + 1 → hs.getD j 0 ≤ d - 1) := Lib.hid ⟨hst.out.1, fun j h0 hj => by
          rcases Nat.lt_or_eq_of_le (Nat.lt_succ_iff.1 hj) with h1 | rfl
          · exact hst.out.2 j h0 h1
          · rw [← HH.out]; exact hgt⟩
        clear hgt
        go_wp2_with fail
        go_roundg (Nq - (i + 1))
        case measure => omega
        case rel => exact ⟨i + 1, by omega, by omega, rfl, by go_num, HN⟩
      · rw [decide_eq_false hgt]
        have HX : Hid (R = false) := Lib.hid (by
          rw [HF2.out, all_not (j := i) hNi (by rw [HLEN.out]; exact hit) (by rw [← HH.out]; exact decide_eq_false hgt)])
        clear hgt
        go_wp2_with fail
        go_ret
        exact ⟨ret_eq (by rw [HX.out]; rfl), HK.out.1.trans (K4.out.trans hst.out.1)⟩
    · obtain rfl : i = Nq := by omega
      have dI : decide ((i : Int) < (i : Int)) = false := decide_eq_false (by omega)
      have HX : Hid (R = true) := Lib.hid (by
        rw [HF2.out, all_at (fun j h1 h2 => decide_eq_true (hst.out.2 j h1 (by rw [HLEN.out] at h2; exact h2)))])
      have HKK := Lib.hid hst.out.1
      clear hst
      go_wp2_with fail
      go_ret
      exact ⟨ret_eq (by rw [HX.out]; rfl), HK.out.1.trans (K4.out.trans HKK.out)⟩
end Go.Proofs.YtpigppghcghpbaaGreatDoor

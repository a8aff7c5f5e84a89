/- place.Within at any structs. -/
import Derived.Test.YtpigppghcghpbaaGreatDoorMg31
namespace Go.Proofs.YtpigppghcghpbaaGreatDoor
open Go.RowKit

/-- What place.Within answers. -/
def winV (p q : Pl) (op oq : Option (Ty × List Int)) (d : Int) : Bool × Int := if op.isSome = true ∧ oq.isSome = true ∧ 1 ≤ d ∧ d ≤ 3 then (winB p q (hows oq) d, 0) else (false, 2)
theorem preB_le {p q : Pl} (h : preB p q = true) : p.path.length ≤ q.path.length := by
  unfold preB at h
  simp only [Bool.and_eq_true, decide_eq_true_eq] at h
  exact h.2.1
theorem hows_len {S : List (List Ty)} {L : List Ty} {q : Pl} (h : (wkP S L q).isSome = true) : (hows (wkP S L q)).length = q.path.length := by
  by_cases hm : MayP S L q
  · rw [wkP_pos hm] at h ⊢
    cases hw : walkN S (L.getD q.loc.toNat ty0) q.path q.path.length with
    | none => rw [hw] at h; cases h
    | some x => exact walkN_len (t := x.1) (hs := x.2) hw
  · rw [wkP_neg hm] at h; cases h
def WinEnd (r : Bool × Int) (w : World) (e : Ending) (w' : World) : Prop := e = .returned (.tuple #[.bool r.1, .int .i64 r.2]) ∧ KB F0 w w'
theorem winEnd_eq {R : Bool × Int} {b : Bool} {x : Int} {w w' : World} (h : R = (b, x)) (hk : KB F0 w w') : WinEnd R w (.returned (.tuple #[.bool b, .int .i64 x])) w' := by subst h; exact ⟨rfl, hk⟩
theorem all_at {hs : List Int} {k : Nat} {P : Int → Bool} (h : ∀ j, k ≤ j → j < hs.length → P (hs.getD j 0) = true) : (hs.drop k).all P = true := by
  rw [List.all_eq_true]
  intro x hx
  obtain ⟨j, hj, rfl⟩ := List.getElem_of_mem hx
  rw [List.getElem_drop]
  have hl : k + j < hs.length := by rw [List.length_drop] at hj; omega
  have := h (k + j) (by omega) hl
  rwa [List.getD_eq_getElem?_getD, List.getElem?_eq_getElem hl] at this
theorem all_not {hs : List Int} {k j : Nat} {P : Int → Bool} (hk : k ≤ j) (hj : j < hs.length) (h : P (hs.getD j 0) = false) : (hs.drop k).all P = false := by
  rw [List.all_eq_false]
  refine ⟨hs[j], ?_, ?_⟩
  · rw [List.mem_iff_getElem]
    exact ⟨j - k, by rw [List.length_drop]; omega, by rw [List.getElem_drop]; congr 1; omega⟩
  · rw [List.getD_eq_getElem?_getD, List.getElem?_eq_getElem hj] at h
    simpa using h
set_option maxRecDepth 100000 in
set_option maxHeartbeats 64000000 in
theorem plWithin_any (S : List (List Ty)) (hn : S.length ≤ 1000000) (hl : ∀ i, (fds S i).length ≤ 1000000) (sa : Option Addr) (sc : Nat) (hsc : S.length ≤ sc) (L : List Ty) (hll : L.length ≤ 1000000) (la : Option Addr) (lc : Nat) (p q : Pl) (pa qa : Option Addr) (pc qc : Nat) (d : Int) (w : World) (hS : StsAt 49 w sa S) (hL : TysAt 49 w la L) (hp : PlAt w p pa pc) (hq : PlAt w q qa qc) :
    Calls Tryz.prog 12 #[.slice sa S.length sc, .slice la L.length lc, plV p pa pc, plV q qa qc, .int .u8 d] w (WinEnd (winV p q (wkP S L p) (wkP S L q) d) w) := by
  obtain ⟨w0, rfl⟩ : ∃ w0, w0 = w := ⟨_, rfl⟩
  obtain ⟨hk, hb1, hb2⟩ := new2 w0 #[.int .i64 p.loc, .slice pa p.path.length pc] #[.int .i64 q.loc, .slice qa q.path.length qc] 26 26
  obtain ⟨W, hW⟩ : ∃ W, W = ((w0.alloc (.cells #[.int .i64 p.loc, .slice pa p.path.length pc] 26)).alloc (.cells #[.int .i64 q.loc, .slice qa q.path.length qc] 26)) := ⟨_, rfl⟩
  rw [← hW] at hk hb1 hb2
  have WK := Lib.hid (plWalk_any S hn hl sa sc hsc L hll la lc q qa qc W (hS.kbF hk) (hL.kbF hk) (hq.kbF hk))
  have PM := Lib.hid (fun (V : World) (hV : KB F0 W V) => plMay_any S hn hl sa sc hsc L hll la lc p pa pc V (hS.kbF (hk.trans hV)) (hL.kbF (hk.trans hV)) (hp.kbF (hk.trans hV)))
  have PX := Lib.hid (fun (V : World) (hV : KB F0 W V) => prefix_any p q pa qa pc qc V (hp.kbF (hk.trans hV)) (hq.kbF (hk.trans hV)))
  have hHL : Hid ((wkP S L q).isSome = true → (hows (wkP S L q)).length = q.path.length) := Lib.hid hows_len
  have HPL : Hid (preB p q = true → p.path.length ≤ q.path.length) := Lib.hid preB_le
  have hNp : p.path.length ≤ 100000 := hp.small
  have hNq : q.path.length ≤ 100000 := hq.small
  obtain ⟨R, hR⟩ : ∃ R, R = winV p q (wkP S L p) (wkP S L q) d := ⟨_, rfl⟩
  rw [← hR]
  have HR := Lib.hid hR
  have HK := Lib.hid (And.intro hk (And.intro hb1 hb2))
  have HW := Lib.hid hW
  unfold plV at WK PM PX ⊢
  obtain ⟨op, hop⟩ : ∃ o, o = wkP S L p := ⟨_, rfl⟩
  obtain ⟨oq, hoq⟩ : ∃ o, o = wkP S L q := ⟨_, rfl⟩
  rw [← hop] at PM HR
  rw [← hoq] at WK hHL HR
  obtain ⟨B, hB⟩ : ∃ B, B = preB p q := ⟨_, rfl⟩
  rw [← hB] at PX HPL
  have HB := Lib.hid hB
  have p0 : W.cell? ⟨w0.heap.size, 0, none⟩ = some (.int .i64 p.loc) := blk_cell hb1 0
  have p1 : W.cell? ⟨w0.heap.size, 1, none⟩ = some (.slice pa p.path.length pc) := blk_cell hb1 1
  have q0 : W.cell? ⟨w0.heap.size + 1, 0, none⟩ = some (.int .i64 q.loc) := blk_cell hb2 0
  have q1 : W.cell? ⟨w0.heap.size + 1, 1, none⟩ = some (.slice qa q.path.length qc) := blk_cell hb2 1
  generalize S.length = nS at *
  generalize L.length = nL at *
  obtain ⟨Np, hNpe⟩ : ∃ n, n = p.path.length := ⟨_, rfl⟩
  obtain ⟨Nq, hNqe⟩ : ∃ n, n = q.path.length := ⟨_, rfl⟩
  obtain ⟨xp, hxp⟩ : ∃ n, n = p.loc := ⟨_, rfl⟩
  obtain ⟨xq, hxq⟩ : ∃ n, n = q.loc := ⟨_, rfl⟩
  rw [← hNpe, ← hNqe, ← hxp, ← hxq]
  rw [← hNpe] at HW HK p1 PM PX hNp HPL
  rw [← hNqe] at HW HK q1 WK PX hNq HPL hHL
  rw [← hxp] at HW HK p0 PM PX
  rw [← hxq] at HW HK q0 WK PX
  have HE := Lib.hid (And.intro hNpe hNqe)
  clear hk hb1 hb2 hW hS hL hp hq hR hop hoq hB hNpe hNqe hxp hxq hn hl
  go_enter Tryz.func12, Tryz.ntmps12
  go_upto_region 1 with fail
  rw [← HW.out]
  go_wp2_with fail
  refine WK.out.mono ?_
  rintro e w1 hE
  obtain ⟨k, m, r, s, va, vn, vc, ga, gc, rfl, ho, k1⟩ := wkV_of hE
  obtain ⟨w2, hw2⟩ : ∃ w2, w2 = w1.alloc (.cells #[.int .u8 k, .bool m, .int .i64 r, .int .i64 s, .slice va vn vc] 36) := ⟨_, rfl⟩
  have k2 := (KB.refl F0 w1).alloc (.cells #[.int .u8 k, .bool m, .int .i64 r, .int .i64 s, .slice va vn vc] 36)
  rw [← hw2] at k2
  have ho2 := own_kb ho k2 (fun _ _ x => x)
  have H2 := Lib.hid (And.intro (k1.trans k2) ho2)
  have HW2 := Lib.hid hw2
  have p0' := H2.out.1.cell (p := ⟨w0.heap.size, 0, none⟩) (fun x => x) p0
  have p1' := H2.out.1.cell (p := ⟨w0.heap.size, 1, none⟩) (fun x => x) p1
  have HC := Lib.hid (And.intro p0 (And.intro p1 (And.intro q0 q1)))
  clear hE ho k1 k2 ho2 hw2 p0 p1 q0 q1 WK
  cases oq with
  | none =>
    have HF : Hid (R = (false, 2)) := Lib.hid (by rw [HR.out]; unfold winV; rw [if_neg (by simp)])
    simp only [Option.isSome_none]
    go_upto_region 2 with fail
    rw [← HW2.out]
    go_wp2_with fail
    go_ret2
    exact winEnd_eq HF.out (HK.out.1.trans H2.out.1)
  | some xs =>
  have hlen : (hows (some xs)).length = Nq := hHL.out rfl
  have HLEN := Lib.hid hlen
  rw [hlen] at H2 ⊢
  simp only [Option.isSome_some]
  clear hlen
  go_upto_region 2 with fail
  rw [← HW2.out]
  go_wp2_with fail
  refine (PM.out w2 H2.out.1).mono ?_
  rintro e w3 ⟨rfl, k3⟩
  have K3 := Lib.hid (H2.out.1.trans k3)
  have HO3 := Lib.hid (own_kb H2.out.2 k3 (fun _ _ x => x))
  clear k3 p0' p1'
  cases op with
  | none =>
    have HF : Hid (R = (false, 2)) := Lib.hid (by rw [HR.out]; unfold winV; rw [if_neg (by simp)])
    simp only [Option.isSome_none]
    go_wp2_with fail
    go_ret2
    exact winEnd_eq HF.out (HK.out.1.trans K3.out)
  | some ys =>
  simp only [Option.isSome_some]
  by_cases hd1 : d < 1
  · have dd : decide (d < 1) = true := decide_eq_true hd1
    have HF : Hid (R = (false, 2)) := Lib.hid (by rw [HR.out]; unfold winV; rw [if_neg (by omega)])
    go_wp2_with fail
    go_ret2
    exact winEnd_eq HF.out (HK.out.1.trans K3.out)
  have dd : decide (d < 1) = false := decide_eq_false hd1
  by_cases hd3 : 3 < d
  · have dd3 : decide (3 < d) = true := decide_eq_true hd3
    have HF : Hid (R = (false, 2)) := Lib.hid (by rw [HR.out]; unfold winV; rw [if_neg (by omega)])
    go_wp2_with fail
    go_ret2
    exact winEnd_eq HF.out (HK.out.1.trans K3.out)
  have dd3 : decide (3 < d) = false := decide_eq_false hd3
  have HF : Hid (R = (winB p q (hows (some xs)) d, 0)) := Lib.hid (by rw [HR.out]; unfold winV; rw [if_pos ⟨rfl, rfl, by omega, by omega⟩])
  have p0' := K3.out.cell (p := ⟨w0.heap.size, 0, none⟩) (fun x => x) HC.out.1
  have p1' := K3.out.cell (p := ⟨w0.heap.size, 1, none⟩) (fun x => x) HC.out.2.1
  have q0' := K3.out.cell (p := ⟨w0.heap.size + 1, 0, none⟩) (fun x => x) HC.out.2.2.1
  have q1' := K3.out.cell (p := ⟨w0.heap.size + 1, 1, none⟩) (fun x => x) HC.out.2.2.2
  go_wp2_with fail
  refine (PX.out w3 K3.out).mono ?_
  rintro e w4 ⟨rfl, k4⟩
  have K4 := Lib.hid (K3.out.trans k4)
  have HO4 := Lib.hid (own_kb HO3.out k4 (fun _ _ x => x))
  clear k4 p0' p1' q0' q1' dd dd3
  have p1' := K4.out.cell (p := ⟨w0.heap.size, 1, none⟩) (fun x => x) HC.out.2.1
  cases B with
  | false =>
    have HF2 : Hid (R = (false, 0)) := Lib.hid (by rw [HF.out]; unfold winB; rw [← HB.out]; rfl)
    go_wp2_with fail
    go_ret2
    exact winEnd_eq HF2.out (HK.out.1.trans K4.out)
  | true =>
  have hle : Np ≤ Nq := HPL.out rfl
  have HF2 : Hid (R = (((hows (some xs)).drop Np).all (fun h => decide (h ≤ d - 1)), 0)) := Lib.hid (by rw [HF.out]; unfold winB; rw [← HB.out, Bool.true_and, HE.out.1])
  obtain ⟨hs, hhs⟩ : ∃ hs, hs = hows (some xs) := ⟨_, rfl⟩
  rw [← hhs] at HF2 HLEN HO4
  obtain ⟨ga', gc', e9, hnc, hgm, -⟩ := own_shape HO4.out
  simp only [Value.slice.injEq, true_and] at e9
  obtain ⟨rfl, rfl⟩ := e9
  have HCL := Lib.hid (fun (V : World) (hV : KB F0 w4 V) (i : Nat) (hi : i < Nq) => ints_at (own_kb HO4.out hV (fun _ _ x => x)) HLEN.out.symm hi)
  have hleI : (Np : Int) ≤ (Nq : Int) := by omega
  have hncI : (Nq : Int) ≤ (gc : Int) := by omega
  unfold maxLen at hgm
  clear hhs hHL HPL PM PX
  by_cases hlt : Np < Nq
  · obtain ⟨g, hg, -⟩ := HCL.out w4 (KB.refl _ _) 0 (by omega)
    subst hg
    have hc1 : ¬ gc = Np := by omega
    have hc2 : ¬ Np = gc := by omega
    have hc3 : Np < gc := by omega
    have hc4 : (Np : Int) < (gc : Int) := by omega
    have hc5 : (Np : Int) ≠ (gc : Int) := by omega
    obtain ⟨D, hD⟩ : ∃ D, D = Nq - Np := ⟨_, rfl⟩
    go_wp2_with fail
    rw [← hD]
    have hD1 : Np + D ≤ Nq := by omega
    have hD2 : Nq ≤ Np + D := by omega
    clear hD
    go_loopg [52] D (fun g iv wr => ∃ i : Nat, i ≤ D ∧ g = D - i ∧ iv = .int .i64 (i : Nat) ∧ Hid (KB F0 w4 wr ∧ ∀ j, j < i → hs.getD (Np + j) 0 ≤ d - 1))
    case atStart => exact ⟨0, by omega, by omega, rfl, Lib.hid ⟨KB.refl _ _, fun j hj => by omega⟩⟩
    case round =>
      obtain ⟨i, hi, rfl, rfl, hst⟩ := hrel
      by_cases hit : i < D
      · have hiI : (i : Int) < (D : Int) := by omega
        have dI : decide ((i : Int) < (D : Int)) = true := decide_eq_true hiI
        obtain ⟨g2, e2, hcl⟩ := HCL.out wr hst.out.1 (Np + i) (by omega)
        simp only [Option.some.injEq, Addr.mk.injEq, and_true] at e2
        subst e2
        obtain ⟨h, hh⟩ : ∃ h, h = hs.getD (Np + i) 0 := ⟨_, rfl⟩
        rw [← hh] at hcl
        have HH := Lib.hid hh
        clear hh
        go_wp2_with fail
        refine (plLimit_any d (by omega) _).mono ?_
        rintro e w5 ⟨rfl, rfl⟩
        by_cases hgt : d - 1 < h
        · have dg : decide (d - 1 < h) = true := decide_eq_true hgt
          have HX : Hid (R = (false, 0)) := Lib.hid (by
            rw [HF2.out, all_not (j := Np + i) (by omega) (by rw [HLEN.out]; omega) (by rw [← HH.out]; exact decide_eq_false (by omega))])
          go_wp2_with fail
          go_ret2
          exact winEnd_eq HX.out (HK.out.1.trans (K4.out.trans hst.out.1))
        · have dg : decide (d - 1 < h) = false := decide_eq_false hgt
          have HN : Hid (KB F0 w4 w5 ∧ ∀ j, j < i + 1 → hs.getD (Np + j) 0 ≤ d - 1) := Lib.hid ⟨hst.out.1, fun j hj => by
            rcases Nat.lt_or_eq_of_le (Nat.lt_succ_iff.1 hj) with h1 | rfl
            · exact hst.out.2 j h1
            · rw [← HH.out]; omega⟩
          go_wp2_with fail
          go_roundg (D - (i + 1))
          case measure => omega
          case rel => exact ⟨i + 1, by omega, rfl, by go_num, HN⟩
      · obtain rfl : i = D := by omega
        have dI : decide ((i : Int) < (i : Int)) = false := decide_eq_false (by omega)
        have HX : Hid (R = (true, 0)) := Lib.hid (by
          rw [HF2.out, all_at (fun j h1 h2 => by
            have := hst.out.2 (j - Np) (by rw [HLEN.out] at h2; omega)
            rw [show Np + (j - Np) = j by omega] at this
            exact decide_eq_true this)])
        have HKK := Lib.hid hst.out.1
        clear hst
        go_wp2_with fail
        go_ret2
        exact winEnd_eq HX.out (HK.out.1.trans (K4.out.trans HKK.out))
  · obtain rfl : Np = Nq := by omega
    have HX : Hid (R = (true, 0)) := Lib.hid (by
      rw [HF2.out, all_at (fun j h1 h2 => by rw [HLEN.out] at h2; omega)])
    by_cases hcap : gc = Np
    · subst hcap
      cases ga with
      | none =>
        go_wp2_with fail
        go_loopg [52] 0 (fun _ iv wr => iv = .int .i64 0 ∧ wr = w4)
        case atStart => exact ⟨rfl, rfl⟩
        case round =>
          obtain ⟨rfl, rfl⟩ := hrel
          go_wp2_with fail
          go_ret2
          exact winEnd_eq HX.out (HK.out.1.trans K4.out)
      | some g =>
        go_wp2_with fail
        go_loopg [52] 0 (fun _ iv wr => iv = .int .i64 0 ∧ wr = w4)
        case atStart => exact ⟨rfl, rfl⟩
        case round =>
          obtain ⟨rfl, rfl⟩ := hrel
          go_wp2_with fail
          go_ret2
          exact winEnd_eq HX.out (HK.out.1.trans K4.out)
    · have hc1 : ¬ Np = gc := fun e => hcap e.symm
      have hc3 : Np < gc := by omega
      have hc4 : (Np : Int) < (gc : Int) := by omega
      have hc5 : (Np : Int) ≠ (gc : Int) := by omega
      cases ga with
      | none =>
        go_wp2_with fail
        go_loopg [52] 0 (fun _ iv wr => iv = .int .i64 0 ∧ wr = w4)
        case atStart => exact ⟨rfl, rfl⟩
        case round =>
          obtain ⟨rfl, rfl⟩ := hrel
          go_wp2_with fail
          go_ret2
          exact winEnd_eq HX.out (HK.out.1.trans K4.out)
      | some g =>
        go_wp2_with fail
        go_loopg [52] 0 (fun _ iv wr => iv = .int .i64 0 ∧ wr = w4)
        case atStart => exact ⟨rfl, rfl⟩
        case round =>
          obtain ⟨rfl, rfl⟩ := hrel
          go_wp2_with fail
          go_ret2
          exact winEnd_eq HX.out (HK.out.1.trans K4.out)
end Go.Proofs.YtpigppghcghpbaaGreatDoor

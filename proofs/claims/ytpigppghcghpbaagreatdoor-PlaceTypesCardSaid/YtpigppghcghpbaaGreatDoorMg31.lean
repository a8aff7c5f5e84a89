/- place.May, place.Within, loanwordref09.Within at any structs. types.own, types.Own; loanwordref07.SameType, of a type and itself. -/
import Derived.Test.YtpigppghcghpbaaGreatDoorPwC
import Derived.Test.YtpigppghcghpbaaGreatDoorPwE
import Derived.Test.YtpigppghcghpbaaGreatDoorMg22
import Derived.Test.YtpigppghcghpbaaGreatDoorPwB
import Derived.Deep.LoopGhost
namespace Go.Proofs.YtpigppghcghpbaaGreatDoor
open Go.RowKit

/-- The ways of a walk's steps. -/
def hows (o : Option (Ty × List Int)) : List Int := match o with | some x => x.2 | none => []
/-- The three parts of what a walk answers: the type's five cells, the ways, whether it may be. -/
def WkV (S : List (List Ty)) (w : World) (o : Option (Ty × List Int)) (e : Ending) (w' : World) : Prop :=
  ∃ (k : Int) (m : Bool) (r s : Int) (va : Option Addr) (vn vc : Nat) (ga : Option Addr) (gc : Nat), e = .returned (.tuple #[.agg #[.int .u8 k, .bool m, .int .i64 r, .int .i64 s, .slice va vn vc], .slice ga (hows o).length gc, .bool o.isSome]) ∧
    w'.ownsRow w.heap.size 3 1 (.slice ga (hows o).length gc) (hows o).length (intsV (hows o)) ∧ KB F0 w w'
theorem wkV_of {S : List (List Ty)} {w w' : World} {o : Option (Ty × List Int)} {e : Ending} (h : WkEnd S w o e w') : WkV S w o e w' := by
  obtain ⟨hk, h⟩ := h
  cases o with
  | none => exact ⟨_, _, _, _, _, _, _, none, 0, h, World.ownsRow_nil _ _ _ _, hk⟩
  | some x =>
    obtain ⟨ta, tc, gv, he, -, ho⟩ := h
    obtain ⟨a, c, rfl, -⟩ := own_shape ho
    exact ⟨_, _, _, _, _, _, _, a, c, he, ho, hk⟩
/-- Within a depth, of two places that may be. -/
def winB (p q : Pl) (hs : List Int) (d : Int) : Bool := preB p q && (hs.drop p.path.length).all fun h => decide (h ≤ d - 1)
theorem ints_at {w : World} {B : Nat} {ga : Option Addr} {n gc : Nat} {hs : List Int} (h : w.ownsRow B 3 1 (.slice ga n gc) n (intsV hs)) (hn : n = hs.length) {i : Nat} (hi : i < n) : ∃ g, ga = some ⟨g, 0, none⟩ ∧ w.cell? ⟨g, i, none⟩ = some (.int .i64 (hs.getD i 0)) := by
  obtain ⟨a, c, e, h1, h2, h3, -⟩ := own_shape h
  simp only [Value.slice.injEq, true_and] at e
  obtain ⟨rfl, rfl⟩ := e
  obtain ⟨g, e, -, hc⟩ := h3 i (by omega)
  refine ⟨g, e, ?_⟩
  rw [hc]
  simp [intsV, List.getD_eq_getElem?_getD, List.getElem?_eq_getElem (show i < hs.length by omega)]
set_option maxRecDepth 100000 in
set_option maxHeartbeats 16000000 in
theorem plMay_any (S : List (List Ty)) (hn : S.length ≤ 1000000) (hl : ∀ i, (fds S i).length ≤ 1000000) (sa : Option Addr) (sc : Nat) (hsc : S.length ≤ sc) (L : List Ty) (hll : L.length ≤ 1000000) (la : Option Addr) (lc : Nat) (p : Pl) (pa : Option Addr) (pc : Nat) (w : World) (hS : StsAt 49 w sa S) (hL : TysAt 49 w la L) (hp : PlAt w p pa pc) :
    Calls Tryz.prog 29 #[.slice sa S.length sc, .slice la L.length lc, plV p pa pc] w fun e w' => e = .returned (.bool (wkP S L p).isSome) ∧ KB F0 w w' := by
  obtain ⟨w0, rfl⟩ : ∃ w0, w0 = w := ⟨_, rfl⟩
  obtain ⟨W, hW⟩ : ∃ W, W = w0.alloc (.cells #[.int .i64 p.loc, .slice pa p.path.length pc] 26) := ⟨_, rfl⟩
  have hk := (KB.refl F0 w0).alloc (.cells #[.int .i64 p.loc, .slice pa p.path.length pc] 26)
  have hb := alloc_new w0 (.cells #[.int .i64 p.loc, .slice pa p.path.length pc] 26)
  rw [← hW] at hk hb
  have p0 : W.cell? ⟨w0.heap.size, 0, none⟩ = some (.int .i64 p.loc) := blk_cell hb 0
  have p1 : W.cell? ⟨w0.heap.size, 1, none⟩ = some (.slice pa p.path.length pc) := blk_cell hb 1
  have WK := Lib.hid (plWalk_any S hn hl sa sc hsc L hll la lc p pa pc W (hS.kbF hk) (hL.kbF hk) (hp.kbF hk))
  have HK := Lib.hid hk
  have HW := Lib.hid hW
  unfold plV at WK ⊢
  generalize wkP S L p = o at *
  generalize S.length = nS at *
  generalize L.length = nL at *
  generalize p.path.length = N at *
  generalize p.loc = x at *
  clear hk hb hW hS hL hp
  go_enter Tryz.func29, Tryz.ntmps29
  go_upto_region 1 with fail
  rw [← HW.out]
  go_wp2_with fail
  refine WK.out.mono ?_
  rintro e w1 hE
  obtain ⟨k, m, r, s, va, vn, vc, ga, gc, rfl, -, k1⟩ := wkV_of hE
  have K1 := Lib.hid (HK.out.trans (k1.alloc (.cells #[.int .u8 k, .bool m, .int .i64 r, .int .i64 s, .slice va vn vc] 36)))
  clear hE k1 p0 p1 WK
  go_wp2_with fail
  go_ret
  exact ⟨rfl, K1.out⟩
set_option maxRecDepth 100000 in
set_option maxHeartbeats 16000000 in
theorem plLimit_any (d : Int) (h : 1 ≤ d ∧ d ≤ 3) (w : World) : Calls Tryz.prog 37 #[.int .u8 d] w fun e w' => e = .returned (.int .i64 (d - 1)) ∧ w' = w := by
  obtain ⟨w0, rfl⟩ : ∃ w0, w0 = w := ⟨_, rfl⟩
  obtain rfl | rfl | rfl : d = 1 ∨ d = 2 ∨ d = 3 := by omega
  all_goals
    clear h
    go_enter Tryz.func37, Tryz.ntmps37
    go_wp2_with fail
    go_ret
    exact ⟨rfl, rfl⟩
set_option maxRecDepth 100000 in
set_option maxHeartbeats 16000000 in
theorem rwin_any (d x : Int) (h : 1 ≤ d ∧ d ≤ 3) (hx : 0 ≤ x) (w : World) : Calls Tryz.prog 40 #[.int .i64 x, .int .u8 d] w fun e w' => e = .returned (.bool (decide (x ≤ d - 1))) ∧ w' = w := by
  obtain ⟨w0, rfl⟩ : ∃ w0, w0 = w := ⟨_, rfl⟩
  obtain rfl | rfl | rfl : d = 1 ∨ d = 2 ∨ d = 3 := by omega
  · have e1 : decide (x ≤ 1 - 1) = (x == 0) := by rw [Bool.eq_iff_iff]; simp; omega
    rw [e1]
    clear h hx e1
    go_enter Tryz.func40, Tryz.ntmps40
    go_wp2_with fail
    go_ret
    exact ⟨rfl, rfl⟩
  · have e1 : decide (x ≤ 2 - 1) = decide (x ≤ 1) := by rw [Bool.eq_iff_iff]; simp
    rw [e1]
    clear h hx e1
    go_enter Tryz.func40, Tryz.ntmps40
    go_wp2_with fail
    all_goals
      go_ret
      first | exact ⟨rfl, rfl⟩ | (refine ⟨ret_eq ?_, rfl⟩; simp_all)
  · have e1 : decide (x ≤ 3 - 1) = decide (x ≤ 2) := by rw [Bool.eq_iff_iff]; simp
    rw [e1]
    clear h hx e1
    go_enter Tryz.func40, Tryz.ntmps40
    go_wp2_with fail
    all_goals
      go_ret
      first | exact ⟨rfl, rfl⟩ | (refine ⟨ret_eq ?_, rfl⟩; simp_all)
end Go.Proofs.YtpigppghcghpbaaGreatDoor

namespace Go.Proofs.YtpigppghcghpbaaGreatDoor
open Go.RowKit

/-- So deep at most, at each level one type or none. -/
def deepT : Nat → Ty → Bool
  | 0, t => decide (t.of.length = 0)
  | n + 1, t => decide (t.of.length = 0) || (decide (t.of.length = 1) && deepT n (in0 t))
theorem deep_look {S : Nat} : ∀ {n : Nat} {t : Ty}, lookB S n t = true → deepT n t = true := by
  intro n
  induction n with
  | zero => intro t h; cases h
  | succ n ih =>
    intro t h
    rw [lookB_succ] at h
    unfold deepT
    unfold lookV at h
    by_cases h0 : t.of.length = 0
    · simp [h0]
    · by_cases h1 : t.of.length = 1
      · cases hq : lookB S n (in0 t) with
        | true => simp [h1, ih hq]
        | false => exfalso; revert h; simp only [hq, Bool.and_false]; simp [h1]
      · exfalso; revert h; simp only [h1, decide_false, Bool.false_and]; simp [h0]
theorem deep_le {n : Nat} {t : Ty} (h : deepT n t = true) : t.of.length ≤ 1 := by
  cases n with
  | zero => unfold deepT at h; simp at h; simp [h]
  | succ n => unfold deepT at h; simp at h; rcases h with h | h <;> simp [h]
theorem deep_in {n : Nat} {t : Ty} (h : deepT n t = true) (h1 : t.of.length = 1) : ∃ m, n = m + 1 ∧ deepT m (in0 t) = true := by
  cases n with
  | zero => unfold deepT at h; simp [h1] at h
  | succ n => unfold deepT at h; simp [h1] at h; exact ⟨n, rfl, h⟩
/-- A type of bounded depth that lies so deep lies at any depth. -/
theorem deep_at {w : World} : ∀ {n : Nat} {t : Ty} {a : Option Addr} {c : Nat}, deepT n t = true → TyAt (n + 1) w t a c → ∀ m, TyAt m w t a c := by
  intro n
  induction n with
  | zero =>
    intro t a c h ht m
    cases m with
    | zero => trivial
    | succ m => exact ⟨ht.1, fun i hi => by unfold deepT at h; simp at h; simp [h] at hi⟩
  | succ n ih =>
    intro t a c h ht m
    cases m with
    | zero => trivial
    | succ m =>
      refine ⟨ht.1, fun i hi => ?_⟩
      have hle := deep_le h
      obtain ⟨k, hk, hd⟩ := deep_in h (by omega)
      obtain rfl : i = 0 := by omega
      obtain rfl : n = k := by omega
      obtain ⟨b, o, a', c', e, h1, h2⟩ := ht.2 0 hi
      exact ⟨b, o, a', c', e, h1, ih hd h2 m⟩
theorem look_mono {S R : Nat} (hSR : S ≤ R) : ∀ {n m : Nat} {t : Ty}, n ≤ m → lookB S n t = true → lookB R m t = true := by
  intro n
  induction n with
  | zero => intro m t _ h; cases h
  | succ n ih =>
    intro m t hm h
    cases m with
    | zero => omega
    | succ m =>
      rw [lookB_succ] at h ⊢
      have hq : (decide (t.of.length = 1) && lookB S n (in0 t)) = true → (decide (t.of.length = 1) && lookB R m (in0 t)) = true := by
        simp only [Bool.and_eq_true]; exact fun h => ⟨h.1, ih (by omega) h.2⟩
      revert h hq
      generalize (decide (t.of.length = 1) && lookB S n (in0 t)) = q
      generalize (decide (t.of.length = 1) && lookB R m (in0 t)) = r
      intro h hq
      unfold lookV at *
      split
      · rename_i h1; rw [if_pos h1] at h; exact h
      · rename_i h1; rw [if_neg h1] at h
        split
        · rename_i h2; rw [if_pos h2] at h
          simp only [Bool.and_eq_true, decide_eq_true_eq] at h ⊢
          exact ⟨h.1, h.2.1, h.2.2.1, by omega⟩
        · rename_i h2; rw [if_neg h2] at h
          split
          · rename_i h3; rw [if_pos h3] at h; simp only [Bool.and_eq_true] at h ⊢; exact ⟨h.1, h.2.1, hq h.2.2⟩
          · rename_i h3; rw [if_neg h3] at h
            split
            · rename_i h4; rw [if_pos h4] at h; simp only [Bool.and_eq_true] at h ⊢; exact ⟨h.1, h.2.1, hq h.2.2⟩
            · rename_i h4; rw [if_neg h4] at h; cases h
set_option maxRecDepth 100000 in
set_option maxHeartbeats 16000000 in
theorem sameTy_zero (t : Ty) (a b : Option Addr) (c d : Nat) (w : World) (h0 : t.of.length = 0) :
    Calls Tryz.prog 33 #[tyV t a c, tyV t b d] w fun e w' => e = .returned (.bool true) ∧ KB F0 w w' := by
  obtain ⟨w0, rfl⟩ : ∃ w0, w0 = w := ⟨_, rfl⟩
  unfold tyV
  rw [h0]
  clear h0
  obtain ⟨hk, hb1, hb2⟩ := new2 w0 #[.int .u8 t.k, .bool t.m, .int .i64 t.r, .int .i64 t.s, .slice a 0 c] #[.int .u8 t.k, .bool t.m, .int .i64 t.r, .int .i64 t.s, .slice b 0 d] 36 36
  obtain ⟨W, hW⟩ : ∃ W, W = ((w0.alloc (.cells #[.int .u8 t.k, .bool t.m, .int .i64 t.r, .int .i64 t.s, .slice a 0 c] 36)).alloc (.cells #[.int .u8 t.k, .bool t.m, .int .i64 t.r, .int .i64 t.s, .slice b 0 d] 36)) := ⟨_, rfl⟩
  rw [← hW] at hk hb1 hb2
  have a0 : W.cell? ⟨w0.heap.size, 0, none⟩ = some (.int .u8 t.k) := blk_cell hb1 0
  have a1 : W.cell? ⟨w0.heap.size, 1, none⟩ = some (.bool t.m) := blk_cell hb1 1
  have a2 : W.cell? ⟨w0.heap.size, 2, none⟩ = some (.int .i64 t.r) := blk_cell hb1 2
  have a3 : W.cell? ⟨w0.heap.size, 3, none⟩ = some (.int .i64 t.s) := blk_cell hb1 3
  have a4 : W.cell? ⟨w0.heap.size, 4, none⟩ = some (.slice a 0 c) := blk_cell hb1 4
  have b0 : W.cell? ⟨w0.heap.size + 1, 0, none⟩ = some (.int .u8 t.k) := blk_cell hb2 0
  have b1 : W.cell? ⟨w0.heap.size + 1, 1, none⟩ = some (.bool t.m) := blk_cell hb2 1
  have b2 : W.cell? ⟨w0.heap.size + 1, 2, none⟩ = some (.int .i64 t.r) := blk_cell hb2 2
  have b3 : W.cell? ⟨w0.heap.size + 1, 3, none⟩ = some (.int .i64 t.s) := blk_cell hb2 3
  have b4 : W.cell? ⟨w0.heap.size + 1, 4, none⟩ = some (.slice b 0 d) := blk_cell hb2 4
  have HB := Lib.hid (And.intro hk (And.intro hb1 hb2))
  have HW := Lib.hid hW
  have nk : (t.k != t.k) = false := by simp
  have nm : (t.m != t.m) = false := by simp
  have nr : (t.r != t.r) = false := by simp
  have ns : (t.s != t.s) = false := by simp
  generalize t.k = k at *
  generalize t.m = m at *
  generalize t.r = rg at *
  generalize t.s = st at *
  clear hk hb1 hb2 hW
  go_enter Tryz.func33, Tryz.ntmps33
  go_upto_region 1 with fail
  rw [← HW.out]
  go_wp2_with fail
  go_loopg [5] 0 (fun g iv wr => g = 0 ∧ iv = .int .i64 0 ∧ wr = W)
  case atStart => exact ⟨by omega, rfl, rfl⟩
  case round =>
    obtain ⟨rfl, rfl, rfl⟩ := hrel
    go_wp2_with fail
    go_ret
    exact ⟨rfl, HB.out.1⟩
set_option maxRecDepth 100000 in
set_option maxHeartbeats 16000000 in
theorem sameTy_one (t : Ty) (ab ao bb bo : Nat) (a' b' : Option Addr) (c' d' c d : Nat) (w : World) (h1 : t.of.length = 1) (hc : 1 ≤ c) (hd : 1 ≤ d) (hca : TyCells w ab ao (in0 t) a' c') (hcb : TyCells w bb bo (in0 t) b' d')
    (rec : ∀ V, KB F0 w V → Calls Tryz.prog 33 #[tyV (in0 t) a' c', tyV (in0 t) b' d'] V fun e w' => e = .returned (.bool true) ∧ KB F0 V w') :
    Calls Tryz.prog 33 #[tyV t (some ⟨ab, ao, none⟩) c, tyV t (some ⟨bb, bo, none⟩) d] w fun e w' => e = .returned (.bool true) ∧ KB F0 w w' := by
  obtain ⟨w0, rfl⟩ : ∃ w0, w0 = w := ⟨_, rfl⟩
  unfold tyV at rec ⊢
  rw [h1]
  clear h1
  obtain ⟨hk, hb1, hb2⟩ := new2 w0 #[.int .u8 t.k, .bool t.m, .int .i64 t.r, .int .i64 t.s, .slice (some ⟨ab, ao, none⟩) 1 c] #[.int .u8 t.k, .bool t.m, .int .i64 t.r, .int .i64 t.s, .slice (some ⟨bb, bo, none⟩) 1 d] 36 36
  obtain ⟨W, hW⟩ : ∃ W, W = ((w0.alloc (.cells #[.int .u8 t.k, .bool t.m, .int .i64 t.r, .int .i64 t.s, .slice (some ⟨ab, ao, none⟩) 1 c] 36)).alloc (.cells #[.int .u8 t.k, .bool t.m, .int .i64 t.r, .int .i64 t.s, .slice (some ⟨bb, bo, none⟩) 1 d] 36)) := ⟨_, rfl⟩
  rw [← hW] at hk hb1 hb2
  have a0 : W.cell? ⟨w0.heap.size, 0, none⟩ = some (.int .u8 t.k) := blk_cell hb1 0
  have a1 : W.cell? ⟨w0.heap.size, 1, none⟩ = some (.bool t.m) := blk_cell hb1 1
  have a2 : W.cell? ⟨w0.heap.size, 2, none⟩ = some (.int .i64 t.r) := blk_cell hb1 2
  have a3 : W.cell? ⟨w0.heap.size, 3, none⟩ = some (.int .i64 t.s) := blk_cell hb1 3
  have a4 : W.cell? ⟨w0.heap.size, 4, none⟩ = some (.slice (some ⟨ab, ao, none⟩) 1 c) := blk_cell hb1 4
  have b0 : W.cell? ⟨w0.heap.size + 1, 0, none⟩ = some (.int .u8 t.k) := blk_cell hb2 0
  have b1 : W.cell? ⟨w0.heap.size + 1, 1, none⟩ = some (.bool t.m) := blk_cell hb2 1
  have b2 : W.cell? ⟨w0.heap.size + 1, 2, none⟩ = some (.int .i64 t.r) := blk_cell hb2 2
  have b3 : W.cell? ⟨w0.heap.size + 1, 3, none⟩ = some (.int .i64 t.s) := blk_cell hb2 3
  have b4 : W.cell? ⟨w0.heap.size + 1, 4, none⟩ = some (.slice (some ⟨bb, bo, none⟩) 1 d) := blk_cell hb2 4
  have HB := Lib.hid (And.intro hk (And.intro hb1 hb2))
  have HW := Lib.hid hW
  have nk : (t.k != t.k) = false := by simp
  have nm : (t.m != t.m) = false := by simp
  have nr : (t.r != t.r) = false := by simp
  have ns : (t.s != t.s) = false := by simp
  have hcI : (1 : Int) ≤ (c : Int) := by omega
  have hdI : (1 : Int) ≤ (d : Int) := by omega
  have RC := Lib.hid (fun (V : World) (hV : KB F0 W V) => rec V (hk.trans hV))
  have RA := Lib.hid (And.intro (hca.kbF hk) (hcb.kbF hk))
  generalize in0 t = u at RC RA hca hcb rec
  generalize t.k = k at *
  generalize t.m = m at *
  generalize t.r = rg at *
  generalize t.s = st at *
  clear hk hb1 hb2 hW hca hcb rec
  go_enter Tryz.func33, Tryz.ntmps33
  go_upto_region 1 with fail
  rw [← HW.out]
  go_wp2_with fail
  clear a0 a1 a2 a3 a4 b0 b1 b2 b3 b4
  go_loopg [5] 1 (fun g iv wr => ∃ i : Nat, i ≤ 1 ∧ g = 1 - i ∧ iv = .int .i64 (i : Nat) ∧ Hid (KB F0 W wr))
  case atStart => exact ⟨0, by omega, by omega, rfl, Lib.hid (KB.refl _ _)⟩
  case round =>
    obtain ⟨i, hi, rfl, rfl, K0⟩ := hrel
    obtain ⟨wi, rfl⟩ : ∃ q, q = wr := ⟨_, rfl⟩
    have a4 : wi.cell? ⟨w0.heap.size, 4, none⟩ = some (.slice (some ⟨ab, ao, none⟩) 1 c) := K0.out.cell (p := ⟨w0.heap.size, 4, none⟩) (fun x => x) (blk_cell HB.out.2.1 4)
    have b4 : wi.cell? ⟨w0.heap.size + 1, 4, none⟩ = some (.slice (some ⟨bb, bo, none⟩) 1 d) := K0.out.cell (p := ⟨w0.heap.size + 1, 4, none⟩) (fun x => x) (blk_cell HB.out.2.2 4)
    obtain rfl | rfl : i = 0 ∨ i = 1 := by omega
    · rw [show ((0 : Nat) : Int) = 0 from rfl]
      obtain ⟨ia0, ia1, ia2, ia3, ia4⟩ := RA.out.1.kbF K0.out
      obtain ⟨ib0, ib1, ib2, ib3, ib4⟩ := RA.out.2.kbF K0.out
      go_upto_region 6 with fail
      refine wp_region_rv 12 GK (kindW [(10, (fun v => v = .bool true), (fun _ _ => True))]) (by kernel_rfl) (by kernel_rfl) (kb_trans _) (kb_refl _) (kb_start _ _) (kindW_mono _ (by intro p hp; simp only [List.mem_cons, List.not_mem_nil, or_false] at hp; (subst hp; exact lasts_true))) ?_
      simp only [List.take_succ_cons, List.take_zero, List.drop_succ_cons, List.drop_zero]
      iterate 10 (refine rv_det (by kernel_rfl) rfl (by intro w hG hH; have hc0 := KB.cell hG (fun x => x) (a4); have hc1 := KB.cell hG (fun x => x) (b4); have hc2 := KB.cell hG (fun x => x) (ia0); have hc3 := KB.cell hG (fun x => x) (ia1); have hc4 := KB.cell hG (fun x => x) (ia2); have hc5 := KB.cell hG (fun x => x) (ia3); have hc6 := KB.cell hG (fun x => x) (ia4); have hc7 := KB.cell hG (fun x => x) (ib0); have hc8 := KB.cell hG (fun x => x) (ib1); have hc9 := KB.cell hG (fun x => x) (ib2); have hc10 := KB.cell hG (fun x => x) (ib3); have hc11 := KB.cell hG (fun x => x) (ib4); go_simp; first | done | with_reducible rfl) ?_; simp only [Act.put, List.setIfInBounds_toArray, List.set_cons_zero, List.set_cons_succ])
      refine rv_rel (by kernel_rfl) rfl ⟨_, rfl⟩ (by
        intro w hG hH
        refine opVal_call (by go_simp; first | done | exact ⟨⟨rfl, rfl⟩, rfl⟩) ?_
        refine (RC.out _ (K0.out.trans hG)).mono ?_
        rintro e w' ⟨rfl, hq⟩
        exact ⟨_, rfl, rfl, by first | (obtain ⟨nq, rfl⟩ := hq; exact (KB.refl _ _).drewN _) | (subst hq; exact KB.refl _ _) | exact hq, trivial⟩) ?_
      rintro v rfl
      simp only [Act.put, List.setIfInBounds_toArray, List.set_cons_zero, List.set_cons_succ]
      refine rv_det (by kernel_rfl) rfl (by intro w hG hH; go_simp; first | done | with_reducible rfl) ?_
      simp only [Act.put, List.setIfInBounds_toArray, List.set_cons_zero, List.set_cons_succ]
      refine rv_nil (fun w hG hH => ?_)
      have K2 := Lib.hid (K0.out.trans hG)
      clear hG hH a4 b4 ia0 ia1 ia2 ia3 ia4 ib0 ib1 ib2 ib3 ib4
      go_wp2_with fail
      go_roundg 0
      case measure => omega
      case rel => exact ⟨1, by omega, by omega, by go_num, K2⟩
    · go_wp2_with fail
      go_ret
      exact ⟨rfl, HB.out.1.trans K0.out⟩
theorem sameTy_any : ∀ n : Nat, ∀ (t : Ty) (a b : Option Addr) (c d : Nat) (w : World), deepT n t = true → TyAt (n + 1) w t a c → TyAt (n + 1) w t b d →
    Calls Tryz.prog 33 #[tyV t a c, tyV t b d] w fun e w' => e = .returned (.bool true) ∧ KB F0 w w' := by
  intro n
  induction n with
  | zero =>
    intro t a b c d w hd _ _
    exact sameTy_zero t a b c d w (by unfold deepT at hd; simpa using hd)
  | succ n ih =>
    intro t a b c d w hd ha hb
    have hle := deep_le hd
    rcases Nat.lt_or_ge 0 t.of.length with h0 | h0
    · have h1 : t.of.length = 1 := by omega
      obtain ⟨m, hm, hdi⟩ := deep_in hd h1
      obtain rfl : n = m := by omega
      obtain ⟨ab, ao, a', c', rfl, hca, hta⟩ := ha.in0 h0
      obtain ⟨bb, bo, b', d', rfl, hcb, htb⟩ := hb.in0 h0
      exact sameTy_one t ab ao bb bo a' b' c' d' c d w h1 (by have := ha.1; omega) (by have := hb.1; omega) hca hcb (fun V hV => ih (in0 t) a' b' c' d' V hdi (hta.kbF hV) (htb.kbF hV))
    · exact sameTy_zero t a b c d w (by omega)
end Go.Proofs.YtpigppghcghpbaaGreatDoor

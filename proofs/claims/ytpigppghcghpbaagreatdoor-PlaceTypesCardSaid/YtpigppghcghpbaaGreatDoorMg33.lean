/- types.Own. place.Type, place.Goes at any structs. -/
import Derived.Test.YtpigppghcghpbaaGreatDoorTyQ
import Derived.Test.YtpigppghcghpbaaGreatDoorMg31
namespace Go.Proofs.YtpigppghcghpbaaGreatDoor
open Go.RowKit

theorem ret_tyI2 {fn : Func} {R : Ending → World → Prop} {a : Act} {w : World} {p q X : Nat} {k : Int} {m : Bool} {r s : Int} {v u : Value} (h : fn.results = #[.cell p 36, .tmp q]) (hp : a.tmps.getD p undef = .pointer (some ⟨X, 0, none⟩)) (hq : a.tmps.getD q undef = u)
    (hc : w.heap[X]? = some (.cells #[.int .u8 k, .bool m, .int .i64 r, .int .i64 s, v] 36 (0, 0))) (hd : a.defers = []) (hR : R (.returned (.tuple #[.agg #[.int .u8 k, .bool m, .int .i64 r, .int .i64 s, v], u])) w) : bodyPost Tryz.prog fn R .ret a w := by
  refine bodyPost_ret (v := .tuple #[.agg #[.int .u8 k, .bool m, .int .i64 r, .int .i64 s, v], u]) ?_ hd hR
  have hp' : a.tmps[p]?.getD undef = .pointer (some ⟨X, 0, none⟩) := by simpa using hp
  have hq' : a.tmps[q]?.getD undef = u := by simpa using hq
  have c0 : w.cell? ⟨X, 0, none⟩ = some (.int .u8 k) := blk_cell hc 0
  have c1 : w.cell? ⟨X, 1, none⟩ = some (.bool m) := blk_cell hc 1
  have c2 : w.cell? ⟨X, 2, none⟩ = some (.int .i64 r) := blk_cell hc 2
  have c3 : w.cell? ⟨X, 3, none⟩ = some (.int .i64 s) := blk_cell hc 3
  have c4 : w.cell? ⟨X, 4, none⟩ = some v := blk_cell hc 4
  simp only [results, h]
  go_simp
/-- What Own answers of a type that may be. -/
def OwnOk (n : Nat) (t : Ty) (w : World) (e : Ending) (w' : World) : Prop := KB F0 w w' ∧ ∃ ga gc, e = .returned (.tuple #[tyV t ga gc, .int .i64 0]) ∧ OwnT n w' w.heap.size t ga gc
set_option maxRecDepth 100000 in
set_option maxHeartbeats 16000000 in
theorem tyOwn_any (t : Ty) (ta : Option Addr) (tc : Nat) (w : World) (hl : lookB 32 48 t = true) (ht : TyAt 49 w t ta tc) :
    Calls Tryz.prog 56 #[tyV t ta tc] w (OwnOk 48 t w) := by
  obtain ⟨w0, rfl⟩ : ∃ w0, w0 = w := ⟨_, rfl⟩
  obtain ⟨hk, hb1, hb2⟩ := new2 w0 #[.int .u8 t.k, .bool t.m, .int .i64 t.r, .int .i64 t.s, .slice ta t.of.length tc] ty0c 36 36
  unfold ty0c at hk hb1 hb2
  obtain ⟨W, hW⟩ : ∃ W, W = ((w0.alloc (.cells #[.int .u8 t.k, .bool t.m, .int .i64 t.r, .int .i64 t.s, .slice ta t.of.length tc] 36)).alloc (.cells #[.int .u8 0, .bool false, .int .i64 0, .int .i64 0, .slice none 0 0] 36)) := ⟨_, rfl⟩
  rw [← hW] at hk hb1 hb2
  have TM := Lib.hid (fun (V : World) (hV : KB F0 W V) => tymay_any t ta tc V (ht.kbF (hk.trans hV)))
  have OW := Lib.hid (fun (V : World) (hV : KB F0 W V) => own_any 48 t ta tc V (deep_look hl) (ht.kbF (hk.trans hV)))
  rw [hl] at TM
  have HE : Hid (∀ e w', (KB F0 w0 w' ∧ ∃ ga gc, e = .returned (.tuple #[.agg #[.int .u8 t.k, .bool t.m, .int .i64 t.r, .int .i64 t.s, .slice ga t.of.length gc], .int .i64 0]) ∧ OwnT 48 w' w0.heap.size t ga gc) → OwnOk 48 t w0 e w') := Lib.hid (fun e w' h => h)
  unfold OwnEnd at OW
  generalize OwnOk 48 t w0 = EE at HE ⊢
  have HB := Lib.hid (And.intro hk (And.intro hb1 hb2))
  have HW := Lib.hid hW
  have a0 : W.cell? ⟨w0.heap.size, 0, none⟩ = some (.int .u8 t.k) := blk_cell hb1 0
  have a1 : W.cell? ⟨w0.heap.size, 1, none⟩ = some (.bool t.m) := blk_cell hb1 1
  have a2 : W.cell? ⟨w0.heap.size, 2, none⟩ = some (.int .i64 t.r) := blk_cell hb1 2
  have a3 : W.cell? ⟨w0.heap.size, 3, none⟩ = some (.int .i64 t.s) := blk_cell hb1 3
  have a4 : W.cell? ⟨w0.heap.size, 4, none⟩ = some (.slice ta t.of.length tc) := blk_cell hb1 4
  unfold tyV at TM OW ⊢
  clear hk hb1 hb2 hW ht hl
  go_enter Tryz.func56, Tryz.ntmps56
  go_upto_region 1 with fail
  rw [← HW.out]
  go_wp2_with fail
  refine (TM.out _ (KB.refl _ _)).mono ?_
  rintro e w1 ⟨rfl, k1⟩
  have K1 := Lib.hid k1
  have b1 := k1.heap (fun x => x) HB.out.2.1
  clear k1 a0 a1 a2 a3 a4
  have a0 : w1.cell? ⟨w0.heap.size, 0, none⟩ = some (.int .u8 t.k) := blk_cell b1 0
  have a1 : w1.cell? ⟨w0.heap.size, 1, none⟩ = some (.bool t.m) := blk_cell b1 1
  have a2 : w1.cell? ⟨w0.heap.size, 2, none⟩ = some (.int .i64 t.r) := blk_cell b1 2
  have a3 : w1.cell? ⟨w0.heap.size, 3, none⟩ = some (.int .i64 t.s) := blk_cell b1 3
  have a4 : w1.cell? ⟨w0.heap.size, 4, none⟩ = some (.slice ta t.of.length tc) := blk_cell b1 4
  clear b1
  go_wp2_with fail
  refine (OW.out _ K1.out).mono ?_
  rintro e w2 ⟨k2, ga, gc, rfl, ho⟩
  have c2 := (K1.out.trans k2).heap (fun x => x) HB.out.2.2
  have K2 := Lib.hid (And.intro k2 (And.intro ho c2))
  clear a0 a1 a2 a3 a4
  have d0 := blk_cell c2 0
  have d1 := blk_cell c2 1
  have d2 := blk_cell c2 2
  have d3 := blk_cell c2 3
  have d4 := blk_cell c2 4
  simp only [List.getElem?_toArray, List.getElem?_cons_zero, List.getElem?_cons_succ] at d0 d1 d2 d3 d4
  have g0 := blk_frozen c2 0
  have g1 := blk_frozen c2 1
  have g2 := blk_frozen c2 2
  have g3 := blk_frozen c2 3
  have g4 := blk_frozen c2 4
  clear k2 ho c2
  go_wp2_with fail
  obtain ⟨k2, ho, c2⟩ := K2.out
  have e2 := set5_kb w2 (w0.heap.size + 1) (.int .u8 t.k) (.bool t.m) (.int .i64 t.r) (.int .i64 t.s) (.slice ga t.of.length gc)
  have hs := heap_lt HB.out.2.2
  have hs1 := K1.out.size
  refine ret_tyI2 (X := w0.heap.size + 1) rfl rfl rfl (set5_blk c2 (.int .u8 t.k) (.bool t.m) (.int .i64 t.r) (.int .i64 t.s) (.slice ga t.of.length gc)) rfl ?_
  exact HE.out _ _ ⟨set5_new (HB.out.1.trans (K1.out.trans k2)) (show w0.heap.size ≤ w0.heap.size + 1 by omega) _ _ _ _ _, ga, gc, rfl, (ho.kb e2 (fun k h _ e => by omega)).base (by omega)⟩
end Go.Proofs.YtpigppghcghpbaaGreatDoor

namespace Go.Proofs.YtpigppghcghpbaaGreatDoor
open Go.RowKit

/-- What Type answers. -/
def TypEnd (o : Option (Ty × List Int)) (w : World) (e : Ending) (w' : World) : Prop := KB F0 w w' ∧
  match o with
  | none => e = .returned (.tuple #[.agg #[.int .u8 0, .bool false, .int .i64 0, .int .i64 0, .slice none 0 0], .int .i64 2])
  | some x => ∃ ga gc, e = .returned (.tuple #[.agg #[.int .u8 x.1.k, .bool x.1.m, .int .i64 x.1.r, .int .i64 x.1.s, .slice ga x.1.of.length gc], .int .i64 0]) ∧ OwnT 48 w' w.heap.size x.1 ga gc
theorem typEnd_none {w w' : World} {o : Option (Ty × List Int)} (h : o = none) (hk : KB F0 w w') : TypEnd o w (.returned (.tuple #[.agg #[.int .u8 0, .bool false, .int .i64 0, .int .i64 0, .slice none 0 0], .int .i64 2])) w' := by subst h; exact ⟨hk, rfl⟩
theorem typEnd_some {w w' : World} {o : Option (Ty × List Int)} {x : Ty × List Int} {ga : Option Addr} {gc : Nat} (h : o = some x) (hk : KB F0 w w') (ho : OwnT 48 w' w.heap.size x.1 ga gc) : TypEnd o w (.returned (.tuple #[.agg #[.int .u8 x.1.k, .bool x.1.m, .int .i64 x.1.r, .int .i64 x.1.s, .slice ga x.1.of.length gc], .int .i64 0])) w' := by subst h; exact ⟨hk, ga, gc, rfl, ho⟩
theorem way_good {S : List (List Ty)} {L : List Ty} {p : Pl} {x : Ty × List Int} (h : wkP S L p = some x) : GoodS S := by
  by_cases hm : MayP S L p
  · exact hm.2.2.1
  · rw [wkP_neg hm] at h; cases h
theorem OnWay.look {S : List (List Ty)} {w : World} {t : Ty} {ta : Option Addr} {tc : Nat} (hg : GoodS S) (h : OnWay S w t ta tc) : lookB 32 48 t = true ∧ ∀ m, TyAt m w t ta tc := by
  obtain ⟨d, hd, hl, ht⟩ := h
  exact ⟨look_mono hg.len hd hl, deep_at (deep_look hl) ht⟩
set_option maxRecDepth 100000 in
set_option maxHeartbeats 16000000 in
theorem plType_any (S : List (List Ty)) (hn : S.length ≤ 1000000) (hl : ∀ i, (fds S i).length ≤ 1000000) (sa : Option Addr) (sc : Nat) (hsc : S.length ≤ sc) (L : List Ty) (hll : L.length ≤ 1000000) (la : Option Addr) (lc : Nat) (p : Pl) (pa : Option Addr) (pc : Nat) (w : World) (hS : StsAt 49 w sa S) (hL : TysAt 49 w la L) (hp : PlAt w p pa pc) :
    Calls Tryz.prog 31 #[.slice sa S.length sc, .slice la L.length lc, plV p pa pc] w (TypEnd (wkP S L p) w) := by
  obtain ⟨w0, rfl⟩ : ∃ w0, w0 = w := ⟨_, rfl⟩
  obtain ⟨hk, hb1, hb2⟩ := new2 w0 #[.int .i64 p.loc, .slice pa p.path.length pc] ty0c 26 36
  unfold ty0c at hk hb1 hb2
  obtain ⟨W, hW⟩ : ∃ W, W = ((w0.alloc (.cells #[.int .i64 p.loc, .slice pa p.path.length pc] 26)).alloc (.cells #[.int .u8 0, .bool false, .int .i64 0, .int .i64 0, .slice none 0 0] 36)) := ⟨_, rfl⟩
  rw [← hW] at hk hb1 hb2
  have p0 : W.cell? ⟨w0.heap.size, 0, none⟩ = some (.int .i64 p.loc) := blk_cell hb1 0
  have p1 : W.cell? ⟨w0.heap.size, 1, none⟩ = some (.slice pa p.path.length pc) := blk_cell hb1 1
  have WK := Lib.hid (plWalk_any S hn hl sa sc hsc L hll la lc p pa pc W (hS.kbF hk) (hL.kbF hk) (hp.kbF hk))
  have HG := Lib.hid (fun x (h : wkP S L p = some x) => way_good h)
  have HB := Lib.hid (And.intro hk (And.intro hb1 hb2))
  have HW := Lib.hid hW
  unfold plV at WK ⊢
  generalize wkP S L p = o at *
  generalize S.length = nS at *
  generalize L.length = nL at *
  generalize p.path.length = N at *
  generalize p.loc = x at *
  clear hk hb1 hb2 hW hS hL hp
  go_enter Tryz.func31, Tryz.ntmps31
  go_upto_region 1 with fail
  rw [← HW.out]
  go_wp2_with fail
  refine WK.out.mono ?_
  rintro e w1 ⟨k1, hE⟩
  have c1 := k1.heap (fun x => x) HB.out.2.2
  cases o with
  | none =>
    subst hE
    have ka := (KB.refl F0 w1).alloc (.cells #[.int .u8 0, .bool false, .int .i64 0, .int .i64 0, .slice none 0 0] 36)
    have c2 := ka.heap (fun x => x) c1
    obtain ⟨w2, hw2⟩ : ∃ q, q = w1.alloc (.cells #[.int .u8 0, .bool false, .int .i64 0, .int .i64 0, .slice none 0 0] 36) := ⟨_, rfl⟩
    rw [← hw2] at ka c2
    have K2 := Lib.hid (And.intro (k1.trans ka) c2)
    have HW2 := Lib.hid hw2
    clear k1 c1 p0 p1 WK hw2 ka
    go_upto_region 2 with fail
    rw [← HW2.out]
    have d0 : w2.cell? ⟨w0.heap.size + 1, 0, none⟩ = some (.int .u8 0) := blk_cell c2 0
    have d1 : w2.cell? ⟨w0.heap.size + 1, 1, none⟩ = some (.bool false) := blk_cell c2 1
    have d2 : w2.cell? ⟨w0.heap.size + 1, 2, none⟩ = some (.int .i64 0) := blk_cell c2 2
    have d3 : w2.cell? ⟨w0.heap.size + 1, 3, none⟩ = some (.int .i64 0) := blk_cell c2 3
    have d4 : w2.cell? ⟨w0.heap.size + 1, 4, none⟩ = some (.slice none 0 0) := blk_cell c2 4
    have g0 := blk_frozen c2 0
    have g1 := blk_frozen c2 1
    have g2 := blk_frozen c2 2
    have g3 := blk_frozen c2 3
    have g4 := blk_frozen c2 4
    clear c2
    go_wp2_with fail
    refine ret_tyI2 (X := w0.heap.size + 1) rfl rfl rfl (set5_blk K2.out.2 (.int .u8 0) (.bool false) (.int .i64 0) (.int .i64 0) (.slice none 0 0)) rfl ?_
    exact typEnd_none rfl (set5_new (HB.out.1.trans K2.out.1) (show w0.heap.size ≤ w0.heap.size + 1 by omega) _ _ _ _ _)
  | some xx =>
    obtain ⟨ta, tc, gv, rfl, hon, -⟩ := hE
    obtain ⟨t, hs⟩ := xx
    simp only at hon ⊢
    obtain ⟨hlk, hat⟩ := OnWay.look (HG.out _ rfl) hon
    have ka := (KB.refl F0 w1).alloc (.cells #[.int .u8 t.k, .bool t.m, .int .i64 t.r, .int .i64 t.s, .slice ta t.of.length tc] 36)
    have hbt := alloc_new w1 (.cells #[.int .u8 t.k, .bool t.m, .int .i64 t.r, .int .i64 t.s, .slice ta t.of.length tc] 36)
    have c2 := ka.heap (fun x => x) c1
    obtain ⟨w2, hw2⟩ : ∃ q, q = w1.alloc (.cells #[.int .u8 t.k, .bool t.m, .int .i64 t.r, .int .i64 t.s, .slice ta t.of.length tc] 36) := ⟨_, rfl⟩
    rw [← hw2] at ka c2 hbt
    obtain ⟨X, hX⟩ : ∃ X, X = w1.heap.size := ⟨_, rfl⟩
    rw [← hX] at hbt
    have OW := tyOwn_any t ta tc w2 hlk ((hat 49).kbF (k1.trans ka))
    unfold OwnOk at OW
    unfold tyV at OW ⊢
    have OW2 := Lib.hid OW
    have K2 := Lib.hid (And.intro (k1.trans ka) c2)
    have HW2 := Lib.hid (And.intro hw2 hX)
    have t0 : w2.cell? ⟨X, 0, none⟩ = some (.int .u8 t.k) := blk_cell hbt 0
    have t1 : w2.cell? ⟨X, 1, none⟩ = some (.bool t.m) := blk_cell hbt 1
    have t2 : w2.cell? ⟨X, 2, none⟩ = some (.int .i64 t.r) := blk_cell hbt 2
    have t3 : w2.cell? ⟨X, 3, none⟩ = some (.int .i64 t.s) := blk_cell hbt 3
    have t4 : w2.cell? ⟨X, 4, none⟩ = some (.slice ta t.of.length tc) := blk_cell hbt 4
    clear k1 c1 p0 p1 WK hw2 hX ka hbt c2 OW hon hlk hat
    go_upto_region 2 with fail
    rw [← HW2.out.1, ← HW2.out.2]
    go_wp2_with fail
    refine OW2.out.mono ?_
    rintro e w3 ⟨k3, ga, gc, rfl, ho⟩
    have c3 := k3.heap (fun x => x) K2.out.2
    have K3 := Lib.hid (And.intro (K2.out.1.trans k3) (And.intro ho c3))
    have hsz := heap_lt K2.out.2
    have d0 : w3.cell? ⟨w0.heap.size + 1, 0, none⟩ = some (.int .u8 0) := blk_cell c3 0
    have d1 : w3.cell? ⟨w0.heap.size + 1, 1, none⟩ = some (.bool false) := blk_cell c3 1
    have d2 : w3.cell? ⟨w0.heap.size + 1, 2, none⟩ = some (.int .i64 0) := blk_cell c3 2
    have d3 : w3.cell? ⟨w0.heap.size + 1, 3, none⟩ = some (.int .i64 0) := blk_cell c3 3
    have d4 : w3.cell? ⟨w0.heap.size + 1, 4, none⟩ = some (.slice none 0 0) := blk_cell c3 4
    have g0 := blk_frozen c3 0
    have g1 := blk_frozen c3 1
    have g2 := blk_frozen c3 2
    have g3 := blk_frozen c3 3
    have g4 := blk_frozen c3 4
    clear c3 k3 ho t0 t1 t2 t3 t4
    go_wp2_with fail
    have e2 := set5_kb w3 (w0.heap.size + 1) (.int .u8 t.k) (.bool t.m) (.int .i64 t.r) (.int .i64 t.s) (.slice ga t.of.length gc)
    refine ret_tyI2 (X := w0.heap.size + 1) rfl rfl rfl (set5_blk K3.out.2.2 (.int .u8 t.k) (.bool t.m) (.int .i64 t.r) (.int .i64 t.s) (.slice ga t.of.length gc)) rfl ?_
    exact typEnd_some (x := (t, hs)) rfl (set5_new (HB.out.1.trans K3.out.1) (show w0.heap.size ≤ w0.heap.size + 1 by omega) _ _ _ _ _) ((K3.out.2.1.kb e2 (fun k h _ e => by omega)).base (by omega))
/-- What Goes answers. -/
def GoEnd (o : Option (Ty × List Int)) (w : World) (e : Ending) (w' : World) : Prop := KB F0 w w' ∧
  match o with
  | none => e = .returned (.tuple #[.slice none 0 0, .int .i64 2])
  | some x => ∃ ga gc, e = .returned (.tuple #[.slice ga x.2.length gc, .int .i64 0]) ∧ w'.ownsRow w.heap.size 3 1 (.slice ga x.2.length gc) x.2.length (intsV x.2)
set_option maxRecDepth 100000 in
set_option maxHeartbeats 16000000 in
theorem plGoes_any (S : List (List Ty)) (hn : S.length ≤ 1000000) (hl : ∀ i, (fds S i).length ≤ 1000000) (sa : Option Addr) (sc : Nat) (hsc : S.length ≤ sc) (L : List Ty) (hll : L.length ≤ 1000000) (la : Option Addr) (lc : Nat) (p : Pl) (pa : Option Addr) (pc : Nat) (w : World) (hS : StsAt 49 w sa S) (hL : TysAt 49 w la L) (hp : PlAt w p pa pc) :
    Calls Tryz.prog 32 #[.slice sa S.length sc, .slice la L.length lc, plV p pa pc] w (GoEnd (wkP S L p) w) := by
  obtain ⟨w0, rfl⟩ : ∃ w0, w0 = w := ⟨_, rfl⟩
  obtain ⟨W, hW⟩ : ∃ W, W = w0.alloc (.cells #[.int .i64 p.loc, .slice pa p.path.length pc] 26) := ⟨_, rfl⟩
  have hk := (KB.refl F0 w0).alloc (.cells #[.int .i64 p.loc, .slice pa p.path.length pc] 26)
  have hb := alloc_new w0 (.cells #[.int .i64 p.loc, .slice pa p.path.length pc] 26)
  rw [← hW] at hk hb
  have p0 : W.cell? ⟨w0.heap.size, 0, none⟩ = some (.int .i64 p.loc) := blk_cell hb 0
  have p1 : W.cell? ⟨w0.heap.size, 1, none⟩ = some (.slice pa p.path.length pc) := blk_cell hb 1
  have WK := Lib.hid (plWalk_any S hn hl sa sc hsc L hll la lc p pa pc W (hS.kbF hk) (hL.kbF hk) (hp.kbF hk))
  have HK := Lib.hid hk
  have HW := Lib.hid hW
  unfold plV at WK ⊢
  generalize wkP S L p = o at *
  generalize S.length = nS at *
  generalize L.length = nL at *
  generalize p.path.length = N at *
  generalize p.loc = x at *
  clear hk hb hW hS hL hp
  go_enter Tryz.func32, Tryz.ntmps32
  go_upto_region 1 with fail
  rw [← HW.out]
  go_wp2_with fail
  refine WK.out.mono ?_
  rintro e w1 ⟨k1, hE⟩
  cases o with
  | none =>
    subst hE
    have K1 := Lib.hid (HK.out.trans (k1.alloc (.cells #[.int .u8 0, .bool false, .int .i64 0, .int .i64 0, .slice none 0 0] 36)))
    clear k1 p0 p1 WK
    go_wp2_with fail
    go_ret2
    exact ⟨K1.out, rfl⟩
  | some xx =>
    obtain ⟨ta, tc, gv, rfl, -, ho⟩ := hE
    obtain ⟨t, hs⟩ := xx
    simp only at ho ⊢
    obtain ⟨ga, gc, rfl, -⟩ := own_shape ho
    unfold tyV
    have ka := (KB.refl F0 w1).alloc (.cells #[.int .u8 t.k, .bool t.m, .int .i64 t.r, .int .i64 t.s, .slice ta t.of.length tc] 36)
    have ho2 := own_base (own_kb ho ka (fun _ _ x => x)) HK.out.size
    have K1 := Lib.hid (And.intro (HK.out.trans (k1.trans ka)) ho2)
    clear k1 p0 p1 WK ka ho ho2
    go_wp2_with fail
    go_ret2
    exact ⟨K1.out.1, ga, gc, rfl, K1.out.2⟩
end Go.Proofs.YtpigppghcghpbaaGreatDoor

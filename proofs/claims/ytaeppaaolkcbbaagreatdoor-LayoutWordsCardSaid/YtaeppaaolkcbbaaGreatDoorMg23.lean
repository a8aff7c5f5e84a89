/- graph.spot: a place's type among a graph's locals. -/
import Derived.Test.YtaeppaaolkcbbaaGreatDoorMg20
import Derived.Test.YtaeppaaolkcbbaaGreatDoorMg11
import Derived.Test.YtaeppaaolkcbbaaGreatDoorMg22
namespace Go.Proofs.YtaeppaaolkcbbaaGreatDoor
open Go.RowKit

def mostI (hs : List Int) : Int := hs.foldl max 0
theorem mostI_app (hs : List Int) (z : Int) : mostI (hs ++ [z]) = max (mostI hs) z := by simp [mostI]
def spotF (S : List (List Ty)) (L : List Ty) (p : Pl) : Option (Ty × List Int) :=
 if p.loc < 0 ∨ (L.length : Int) ≤ p.loc then none else walkN S (L.getD p.loc.toNat ty0) p.path p.path.length
def askV (sa : Option Addr) (sn sc : Nat) (fa : Option Addr) (fn fc : Nat) (mn : Int) (nm : ByteArray) (lv : Int) (oa : Option Addr) (on oc : Nat) (par : Int) (la : Option Addr) (ln lc : Nat) (na : Option Addr) (nn nc : Nat) (ga : Option Addr) (gn gc : Nat) : Value :=
 .agg #[.slice sa sn sc, .slice fa fn fc, .int .i64 mn, .string nm, .int .i64 lv, .slice oa on oc, .int .i64 par, .slice la ln lc, .slice na nn nc, .slice ga gn gc]
theorem ret_spot {fn : Func} {R : Ending → World → Prop} {a : Act} {w : World} {p X : Nat} {k : Int} {m : Bool} {r s y : Int} {z : Bool} {v : Value} (h : fn.results = #[.cell p 201]) (hp : a.tmps.getD p undef = .pointer (some ⟨X, 0, none⟩))
  (hc : w.heap[X]? = some (.cells #[.int .u8 k, .bool m, .int .i64 r, .int .i64 s, v, .int .i64 y, .bool z] 201 (0, 0))) (hd : a.defers = []) (hR : R (.returned (.agg #[.int .u8 k, .bool m, .int .i64 r, .int .i64 s, v, .int .i64 y, .bool z])) w) : bodyPost Tryz.prog fn R .ret a w := by
 refine bodyPost_ret (v := .agg #[.int .u8 k, .bool m, .int .i64 r, .int .i64 s, v, .int .i64 y, .bool z]) ?_ hd hR
 have hp' : a.tmps[p]?.getD undef = .pointer (some ⟨X, 0, none⟩) := by simpa using hp
 have c0 : w.cell? ⟨X, 0, none⟩ = some (.int .u8 k) := blk_cell hc 0
 have c1 : w.cell? ⟨X, 1, none⟩ = some (.bool m) := blk_cell hc 1
 have c2 : w.cell? ⟨X, 2, none⟩ = some (.int .i64 r) := blk_cell hc 2
 have c3 : w.cell? ⟨X, 3, none⟩ = some (.int .i64 s) := blk_cell hc 3
 have c4 : w.cell? ⟨X, 4, none⟩ = some v := blk_cell hc 4
 have c5 : w.cell? ⟨X, 5, none⟩ = some (.int .i64 y) := blk_cell hc 5
 have c6 : w.cell? ⟨X, 6, none⟩ = some (.bool z) := blk_cell hc 6
 simp only [results, h]
 go_simp
def set7 (w : World) (X : Nat) (v0 v1 v2 v3 v4 v5 v6 : Value) : World := ((set5 w X v0 v1 v2 v3 v4).setCell ⟨X, 5, none⟩ v5).setCell ⟨X, 6, none⟩ v6
theorem set7_blk {w : World} {X : Nat} {a b c d e f g : Value} (h : w.heap[X]? = some (.cells #[a, b, c, d, e, f, g] 201 (0, 0))) (v0 v1 v2 v3 v4 v5 v6 : Value) : (set7 w X v0 v1 v2 v3 v4 v5 v6).heap[X]? = some (.cells #[v0, v1, v2, v3, v4, v5, v6] 201 (0, 0)) := by
 unfold set7 set5
 have h0 := setCell_blk (i := 6) (setCell_blk (i := 5) (setCell_blk (i := 4) (setCell_blk (i := 3) (setCell_blk (i := 2) (setCell_blk (i := 1) (setCell_blk (i := 0) h v0) v1) v2) v3) v4) v5) v6
 simp only [List.setIfInBounds_toArray, List.set_cons_zero, List.set_cons_succ] at h0
 exact h0
theorem set7_kb (w : World) (X : Nat) (v0 v1 v2 v3 v4 v5 v6 : Value) : KB (· = X) w (set7 w X v0 v1 v2 v3 v4 v5 v6) :=
 ((set5_kb w X v0 v1 v2 v3 v4).trans (kb_set _ X 5 v5)).trans (kb_set _ X 6 v6)
theorem set7_new {w0 w : World} (h : KB F0 w0 w) {X : Nat} (hX : w0.heap.size ≤ X) (v0 v1 v2 v3 v4 v5 v6 : Value) : KB F0 w0 (set7 w X v0 v1 v2 v3 v4 v5 v6) :=
 kb_new (kb_new (set5_new h hX v0 v1 v2 v3 v4) hX 5 _) hX 6 _
theorem arr7 {cs : Array Value} (h : cs.size = 7) : ∃ a b c d e f g, cs = #[a, b, c, d, e, f, g] := by
 obtain ⟨l⟩ := cs
 match l, h with
 | [a, b, c, d, e, f, g], _ => exact ⟨a, b, c, d, e, f, g, rfl⟩
def spV (t : Ty) (ta : Option Addr) (tc : Nat) (m : Int) (ok : Bool) : Value := .agg #[.int .u8 t.k, .bool t.m, .int .i64 t.r, .int .i64 t.s, .slice ta t.of.length tc, .int .i64 m, .bool ok]
def SpEnd (S : List (List Ty)) (wb w : World) (ok : Bool) (o : Option (Ty × List Int)) (e : Ending) (w' : World) : Prop := KB F0 w w' ∧
 match o with
 | none => e = .returned (.agg #[.int .u8 0, .bool false, .int .i64 0, .int .i64 0, .slice none 0 0, .int .i64 0, .bool false])
 | some x => ∃ ta tc, e = .returned (spV x.1 ta tc (mostI x.2) ok) ∧ OnWay S wb x.1 ta tc
theorem spEnd_none {S : List (List Ty)} {wb w w' : World} {ok : Bool} {o : Option (Ty × List Int)} (h : o = none) (hk : KB F0 w w') : SpEnd S wb w ok o (.returned (.agg #[.int .u8 0, .bool false, .int .i64 0, .int .i64 0, .slice none 0 0, .int .i64 0, .bool false])) w' := by
 subst h; exact ⟨hk, rfl⟩
abbrev spObj (t : Ty) (ta : Option Addr) (tc : Nat) (m : Int) (ok : Bool) : Obj := .cells #[.int .u8 t.k, .bool t.m, .int .i64 t.r, .int .i64 t.s, .slice ta t.of.length tc, .int .i64 m, .bool ok] 201
structure SpSt (S : List (List Ty)) (w0 W : World) (X : Nat) (wr : World) (t : Ty) (ta : Option Addr) (tc : Nat) (ok : Bool) (hs : List Int) : Prop where
 kb : KB (fun k => k = X) W wr
 cell : wr.heap[X]? = some (spObj t ta tc (mostI hs) ok)
 on : OnWay S w0 t ta tc
theorem SpSt.kb0 {S : List (List Ty)} {w0 W v : World} {X : Nat} {wr : World} {t : Ty} {ta : Option Addr} {tc : Nat} {ok : Bool} {hs : List Int} (h : SpSt S w0 W X wr t ta tc ok hs) (hk : KB F0 v W) (hX : v.heap.size ≤ X) : KB F0 v wr := hk.oldS h.kb (fun k hk e => by omega)
theorem set5_blk7 {w : World} {X : Nat} {a b c d e f g : Value} (h : w.heap[X]? = some (.cells #[a, b, c, d, e, f, g] 201 (0, 0))) (v0 v1 v2 v3 v4 : Value) : (set5 w X v0 v1 v2 v3 v4).heap[X]? = some (.cells #[v0, v1, v2, v3, v4, f, g] 201 (0, 0)) := by
 unfold set5
 have h0 := setCell_blk (i := 4) (setCell_blk (i := 3) (setCell_blk (i := 2) (setCell_blk (i := 1) (setCell_blk (i := 0) h v0) v1) v2) v3) v4
 simp only [List.setIfInBounds_toArray, List.set_cons_zero, List.set_cons_succ] at h0
 exact h0
theorem SpSt.nextW {S : List (List Ty)} {w0 W : World} {X : Nat} {wr w5 : World} {t u : Ty} {ta ua : Option Addr} {tc uc : Nat} {ok : Bool} {hs : List Int} (z : Int) (h : SpSt S w0 W X wr t ta tc ok hs) (hk : KB F0 wr w5) (hon : OnWay S w0 u ua uc) :
  SpSt S w0 W X (set5 (w5.setCell ⟨X, 5, none⟩ (.int .i64 (mostI (hs ++ [z])))) X (.int .u8 u.k) (.bool u.m) (.int .i64 u.r) (.int .i64 u.s) (.slice ua u.of.length uc)) u ua uc ok (hs ++ [z]) := by
 have h0 := setCell_blk (i := 5) (hk.heap (fun x => x) h.cell) (.int .i64 (mostI (hs ++ [z])))
 simp only [List.setIfInBounds_toArray, List.set_cons_zero, List.set_cons_succ] at h0
 exact ⟨((h.kb.trans (hk.mono (fun _ _ x => x.elim))).trans (kb_set _ X 5 _)).trans (set5_kb _ X _ _ _ _ _), set5_blk7 h0 _ _ _ _ _, hon⟩
theorem mostI_nonneg (hs : List Int) : 0 ≤ mostI hs := by
 have : ∀ (l : List Int) (a : Int), 0 ≤ a → 0 ≤ l.foldl max a := by
  intro l
  induction l with
  | nil => exact fun a h => h
  | cons x l ih => exact fun a h => ih _ (by omega)
 exact this hs 0 (by omega)
theorem SpSt.nextF {S : List (List Ty)} {w0 W : World} {X : Nat} {wr w5 : World} {t u : Ty} {ta ua : Option Addr} {tc uc : Nat} {ok : Bool} {hs : List Int} (h : SpSt S w0 W X wr t ta tc ok hs) (hk : KB F0 wr w5) (hon : OnWay S w0 u ua uc) :
  SpSt S w0 W X (set5 w5 X (.int .u8 u.k) (.bool u.m) (.int .i64 u.r) (.int .i64 u.s) (.slice ua u.of.length uc)) u ua uc ok (hs ++ [0]) := by
 have h0 := hk.heap (fun x => x) h.cell
 have hz : mostI (hs ++ [0]) = mostI hs := by rw [mostI_app]; have := mostI_nonneg hs; omega
 exact ⟨(h.kb.trans (hk.mono (fun _ _ x => x.elim))).trans (set5_kb _ X _ _ _ _ _), by rw [hz]; exact set5_blk7 h0 _ _ _ _ _, hon⟩
set_option maxRecDepth 100000 in
set_option maxHeartbeats 64000000 in
theorem grSpot_any (S : List (List Ty)) (hn : S.length ≤ 1000000) (sa : Option Addr) (sc : Nat) (hsc : S.length ≤ sc) (L : List Ty) (hll : L.length ≤ 1000000) (la : Option Addr) (lc : Nat) (hM : AllT S L) (p : Pl) (pa : Option Addr) (pc : Nat)
  (fa : Option Addr) (fn fc : Nat) (mn : Int) (nm : ByteArray) (lv : Int) (oa : Option Addr) (on oc : Nat) (par : Int) (na : Option Addr) (nn nc : Nat) (ga : Option Addr) (gn gc : Nat) (wb w : World) (hwb : KB F0 wb w)
  (hS : StsAt 49 wb sa S) (hL : TysAt 49 wb la L) (hp : PlAt w p pa pc) :
  Calls Tryz.prog 135 #[askV sa S.length sc fa fn fc mn nm lv oa on oc par la L.length lc na nn nc ga gn gc, plV p pa pc] w (SpEnd S wb w (decide (p.path.length ≤ 8)) (spotF S L p)) := by
 obtain ⟨w0, rfl⟩ : ∃ w0, w0 = w := ⟨_, rfl⟩
 have HWB := Lib.hid hwb
 have hzb : wb.heap.size ≤ w0.heap.size := hwb.size
 clear hwb
 obtain ⟨nS, hnS⟩ : ∃ n, n = S.length := ⟨_, rfl⟩
 obtain ⟨nL, hnL⟩ : ∃ n, n = L.length := ⟨_, rfl⟩
 obtain ⟨N, hN⟩ : ∃ n, n = p.path.length := ⟨_, rfl⟩
 obtain ⟨x, hx⟩ : ∃ x, x = p.loc := ⟨_, rfl⟩
 obtain ⟨O, hO⟩ : ∃ O, O = spotF S L p := ⟨_, rfl⟩
 rw [← hO, ← hN]
 obtain ⟨ok, hok⟩ : ∃ ok, ok = decide (N ≤ 8) := ⟨_, rfl⟩
 rw [← hok]
 have HOK := Lib.hid hok
 clear hok
 obtain ⟨A1, hA1⟩ : ∃ A1 : Array Value, A1 = #[.slice sa nS sc, .slice fa fn fc, .int .i64 mn, .string nm, .int .i64 lv, .slice oa on oc, .int .i64 par, .slice la nL lc, .slice na nn nc, .slice ga gn gc] := ⟨_, rfl⟩
 obtain ⟨hk, hb1, hb2, hb3, hsz⟩ := new3 w0 #[.slice sa nS sc, .slice fa fn fc, .int .i64 mn, .string nm, .int .i64 lv, .slice oa on oc, .int .i64 par, .slice la nL lc, .slice na nn nc, .slice ga gn gc] #[.int .i64 x, .slice pa N pc] #[.int .u8 0, .bool false, .int .i64 0, .int .i64 0, .slice none 0 0, .int .i64 0, .bool false] 175 52 201
 obtain ⟨W, hW⟩ : ∃ W, W = (((w0.alloc (.cells #[.slice sa nS sc, .slice fa fn fc, .int .i64 mn, .string nm, .int .i64 lv, .slice oa on oc, .int .i64 par, .slice la nL lc, .slice na nn nc, .slice ga gn gc] 175)).alloc (.cells #[.int .i64 x, .slice pa N pc] 52)).alloc (.cells #[.int .u8 0, .bool false, .int .i64 0, .int .i64 0, .slice none 0 0, .int .i64 0, .bool false] 201)) := ⟨_, rfl⟩
 rw [← hW] at hk hb1 hb2 hb3 hsz
 have y0 : W.cell? ⟨w0.heap.size + 1, 0, none⟩ = some (.int .i64 x) := blk_cell hb2 0
 have y1 : W.cell? ⟨w0.heap.size + 1, 1, none⟩ = some (.slice pa N pc) := blk_cell hb2 1
 have d0 : W.cell? ⟨w0.heap.size + 1 + 1, 0, none⟩ = some (.int .u8 0) := blk_cell hb3 0
 have d1 : W.cell? ⟨w0.heap.size + 1 + 1, 1, none⟩ = some (.bool false) := blk_cell hb3 1
 have d2 : W.cell? ⟨w0.heap.size + 1 + 1, 2, none⟩ = some (.int .i64 0) := blk_cell hb3 2
 have d3 : W.cell? ⟨w0.heap.size + 1 + 1, 3, none⟩ = some (.int .i64 0) := blk_cell hb3 3
 have d4 : W.cell? ⟨w0.heap.size + 1 + 1, 4, none⟩ = some (.slice none 0 0) := blk_cell hb3 4
 have d5 : W.cell? ⟨w0.heap.size + 1 + 1, 5, none⟩ = some (.int .i64 0) := blk_cell hb3 5
 have d6 : W.cell? ⟨w0.heap.size + 1 + 1, 6, none⟩ = some (.bool false) := blk_cell hb3 6
 have f0 := blk_frozen hb3 0
 have f1 := blk_frozen hb3 1
 have f2 := blk_frozen hb3 2
 have f3 := blk_frozen hb3 3
 have f4 := blk_frozen hb3 4
 have f5 := blk_frozen hb3 5
 have f6 := blk_frozen hb3 6
 have s0 : W.cell? ⟨w0.heap.size, 0, none⟩ = some (.slice sa nS sc) := blk_cell hb1 0
 have s7 : W.cell? ⟨w0.heap.size, 7, none⟩ = some (.slice la nL lc) := blk_cell hb1 7
 have HB := Lib.hid (And.intro hk (And.intro hb1 (And.intro hb2 (And.intro hb3 hsz))))
 have HH := Lib.hid (And.intro hS (And.intro hL (And.intro hp (And.intro hsc (And.intro hnS (And.intro hnL (And.intro hN hx)))))))
 have HW := Lib.hid hW
 have HOO := Lib.hid hO
 have HM := Lib.hid hM
 have hNs : N ≤ 100000 := by rw [hN]; exact hp.small
 rw [← hnL] at hll
 unfold plV askV
 rw [← hnS, ← hnL, ← hN, ← hx]
 clear hk hb1 hb2 hb3 hsz hS hL hp hsc hnS hnL hN hx hW hO hn hA1 A1 hM
 go_enter Tryz.func135, Tryz.ntmps135
 go_upto_region 1 with fail
 rw [← HW.out]
 by_cases h1 : x < 0
 case pos =>
  have HO : Hid (O = none) := Lib.hid (by rw [HOO.out, spotF, if_pos (Or.inl (by rw [← HH.out.2.2.2.2.2.2.2]; exact h1))])
  have dx : decide (x < 0) = true := decide_eq_true h1
  go_wp2_with fail
  refine ret_spot (X := w0.heap.size + 1 + 1) rfl rfl (set7_blk HB.out.2.2.2.1 (.int .u8 0) (.bool false) (.int .i64 0) (.int .i64 0) (.slice none 0 0) (.int .i64 0) (.bool false)) rfl ?_
  exact spEnd_none HO.out (set7_new HB.out.1 (show w0.heap.size ≤ w0.heap.size + 1 + 1 by omega) _ _ _ _ _ _ _)
 have dx : decide (x < 0) = false := decide_eq_false h1
 have h1' : 0 ≤ x := by omega
 by_cases h2 : (nL : Int) ≤ x
 case pos =>
  have HO : Hid (O = none) := Lib.hid (by rw [HOO.out, spotF, if_pos (Or.inr (by rw [← HH.out.2.2.2.2.2.2.2, ← HH.out.2.2.2.2.2.1]; exact h2))])
  have dy : decide ((nL : Int) ≤ x) = true := decide_eq_true h2
  go_wp2_with fail
  refine ret_spot (X := w0.heap.size + 1 + 1) rfl rfl (set7_blk HB.out.2.2.2.1 (.int .u8 0) (.bool false) (.int .i64 0) (.int .i64 0) (.slice none 0 0) (.int .i64 0) (.bool false)) rfl ?_
  exact spEnd_none HO.out (set7_new HB.out.1 (show w0.heap.size ≤ w0.heap.size + 1 + 1 by omega) _ _ _ _ _ _ _)
 have dy : decide ((nL : Int) ≤ x) = false := decide_eq_false h2
 obtain ⟨j, hj⟩ : ∃ j : Nat, x = j := ⟨x.toNat, by omega⟩
 have hjL : j < nL := by omega
 have hjI : (j : Int) < (nL : Int) := by omega
 have HP : Hid (O = walkN S (L.getD j ty0) p.path N) := Lib.hid (by
  rw [HOO.out, spotF, if_neg (by rw [← HH.out.2.2.2.2.2.2.2, ← HH.out.2.2.2.2.2.1]; omega), ← HH.out.2.2.2.2.2.2.1, ← HH.out.2.2.2.2.2.2.2, hj]
  rfl)
 obtain ⟨lb, lo, ta, tc, rfl, hty, hta⟩ := HH.out.2.1 j (by rw [← HH.out.2.2.2.2.2.1]; exact hjL)
 obtain ⟨l0, l1, l2, l3, l4⟩ := hty.kbF (HWB.out.trans HB.out.1)
 obtain ⟨t, ht⟩ : ∃ t, t = L.getD j ty0 := ⟨_, rfl⟩
 rw [← ht] at l0 l1 l2 l3 l4
 have hon : OnWay S wb t ta tc := ⟨48, Nat.le_refl _, by
  refine HM.out.2 t ?_
  have hjl : j < L.length := by rw [← HH.out.2.2.2.2.2.1]; exact hjL
  rw [ht, List.getD_eq_getElem?_getD, List.getElem?_eq_getElem hjl]
  exact List.getElem_mem hjl, by rw [ht]; exact hta⟩
 have HT := Lib.hid (And.intro hon ht)
 subst hj
 have okI : decide ((N : Int) ≤ 8) = ok := by rw [HOK.out]; exact decide_eq_decide.2 (by omega)
 have okN : decide (N ≤ 8) = ok := HOK.out.symm
 have dyN : decide (nL ≤ j) = false := decide_eq_false (by omega)
 clear hon ht hty hta h1 h2
 go_upto_region 3 with fail
 have hWs : w0.heap.size + 1 + 1 < W.heap.size := heap_lt HB.out.2.2.2.1
 refine St.wp_region_rn 14 (St.GY 201 7 (fun cs => cs = #[.int .u8 t.k, .bool t.m, .int .i64 t.r, .int .i64 t.s, .slice ta t.of.length tc, .int .i64 0, .bool ok]) W.heap.size) (St.kindXn [(12, fun _ y => St.IsPtr y, St.NewT 201 7 W.heap.size), (13, fun _ y => y = undef, St.HasT 201 7 W.heap.size (fun cs => cs = #[.int .u8 t.k, .bool t.m, .int .i64 t.r, .int .i64 t.s, .slice ta t.of.length tc, .int .i64 0, .bool ok]))]) (by kernel_rfl) (by kernel_rfl) St.gy_trans St.gy_refl (St.gy_start _) (fun _ _ h => h.size) (St.kindXn_mono _ (by intro q hq; simp only [List.mem_cons, List.not_mem_nil, or_false] at hq; rcases hq with rfl | rfl; exact St.newT_gy; exact St.hasT_gy)) ?_
 simp only [pT, pU, pV, pW]
 refine St.rn_det (by kernel_rfl) rfl (by intro w hG hH; go_simp; first | done | with_reducible rfl) ?_
 simp only [Act.put, pA, pZ, pS]
 refine St.rn_det (by kernel_rfl) rfl (by intro w hG hH; go_simp; first | done | with_reducible rfl) ?_
 simp only [Act.put, pA, pZ, pS]
 refine St.rn_det (by kernel_rfl) rfl (by intro w hG hH; have hc0 := KB.cell (St.GY.kb hG (Nat.le_refl _)) (fun x => x) (s7); go_simp; first | done | with_reducible rfl) ?_
 simp only [Act.put, pA, pZ, pS]
 refine St.rn_det (by kernel_rfl) rfl (by intro w hG hH; go_simp; first | done | with_reducible rfl) ?_
 simp only [Act.put, pA, pZ, pS]
 refine St.rn_det (by kernel_rfl) rfl (by intro w hG hH; have hc0 := KB.cell (St.GY.kb hG (Nat.le_refl _)) (fun x => x) (y0); go_simp; first | done | with_reducible rfl) ?_
 simp only [Act.put, pA, pZ, pS]
 refine St.rn_det (by kernel_rfl) rfl (by intro w hG hH; go_simp; first | done | with_reducible rfl) ?_
 simp only [Act.put, pA, pZ, pS]
 refine St.rn_det (by kernel_rfl) rfl (by intro w hG hH; have hc0 := KB.cell (St.GY.kb hG (Nat.le_refl _)) (fun x => x) (l0); have hc1 := KB.cell (St.GY.kb hG (Nat.le_refl _)) (fun x => x) (l1); have hc2 := KB.cell (St.GY.kb hG (Nat.le_refl _)) (fun x => x) (l2); have hc3 := KB.cell (St.GY.kb hG (Nat.le_refl _)) (fun x => x) (l3); have hc4 := KB.cell (St.GY.kb hG (Nat.le_refl _)) (fun x => x) (l4); go_simp; first | done | with_reducible rfl) ?_
 simp only [Act.put, pA, pZ, pS]
 refine St.rn_det (by kernel_rfl) rfl (by intro w hG hH; go_simp; first | done | with_reducible rfl) ?_
 simp only [Act.put, pA, pZ, pS]
 refine St.rn_det (by kernel_rfl) rfl (by intro w hG hH; have hc0 := KB.cell (St.GY.kb hG (Nat.le_refl _)) (fun x => x) (y1); go_simp; first | done | with_reducible rfl) ?_
 simp only [Act.put, pA, pZ, pS]
 refine St.rn_det (by kernel_rfl) rfl (by intro w hG hH; go_simp; first | done | with_reducible rfl) ?_
 simp only [Act.put, pA, pZ, pS]
 refine St.rn_det (by kernel_rfl) rfl (by intro w hG hH; go_simp; first | done | with_reducible rfl) ?_
 simp only [Act.put, pA, pZ, pS]
 refine St.rn_det (by kernel_rfl) rfl (by intro w hG hH; go_simp; first | done | with_reducible rfl) ?_
 simp only [Act.put, pA, pZ, pS]
 refine St.rn_plain (by kernel_rfl) rfl St.isPtr_ex (fun _ _ h => h.size) (fun w hG hH => St.opVal_newT rfl hG (by go_simp; first | done | rfl)) ?_
 rintro y g12 ⟨nb, rfl⟩
 simp only [Act.put, pA, pZ, pS]
 refine St.rn_plain (by kernel_rfl) rfl ⟨_, rfl⟩ (fun _ _ h => h.size) (by
  intro w hG hH
  obtain ⟨hB, cs, hz, hc⟩ := hH _ List.mem_cons_self (by kernel_rfl) nb rfl
  obtain ⟨q0, q1, q2, q3, q4, q5, q6, rfl⟩ := arr7 hz
  have m0 := blk_cell hc 0
  have m1 := blk_cell hc 1
  have m2 := blk_cell hc 2
  have m3 := blk_cell hc 3
  have m4 := blk_cell hc 4
  have m5 := blk_cell hc 5
  have m6 := blk_cell hc 6
  have n0 := blk_frozen hc 0
  have n1 := blk_frozen hc 1
  have n2 := blk_frozen hc 2
  have n3 := blk_frozen hc 3
  have n4 := blk_frozen hc 4
  have n5 := blk_frozen hc 5
  have n6 := blk_frozen hc 6
  simp only [List.getElem?_toArray, List.getElem?_cons_zero, List.getElem?_cons_succ] at m0 m1 m2 m3 m4 m5 m6
  refine St.opVal_storeT (w' := set7 w nb (.int .u8 t.k) (.bool t.m) (.int .i64 t.r) (.int .i64 t.s) (.slice ta t.of.length tc) (.int .i64 0) (.bool ok)) hB hc rfl rfl (set7_kb w nb _ _ _ _ _ _ _) (set7_blk hc _ _ _ _ _ _ _) rfl ?_
  unfold set7 set5
  go_simp
  first | done | rfl) ?_
 rintro y g13 rfl
 simp only [Act.put, pA, pZ, pS]
 refine St.rn_nil (fun w hG hH => ?_)
 have f13 := hH _ List.mem_cons_self nb rfl
 have K3 := Lib.hid (hG.kb (Nat.le_refl _))
 obtain ⟨hnb, cs, hcz, hcb, hcw⟩ := f13
 subst hcw
 clear hG hH hcz l0 l1 l2 l3 l4 y0 y1 d0 d1 d2 d3 d4 d5 d6 f0 f1 f2 f3 f4 f5 f6 s0 s7
 obtain ⟨W3, rfl⟩ : ∃ q, q = w := ⟨_, rfl⟩
 have H3 := Lib.hid (And.intro (HB.out.1.trans K3.out) (And.intro (K3.out.heap (fun x => x) HB.out.2.1) (And.intro (K3.out.heap (fun x => x) HB.out.2.2.1) (And.intro (K3.out.heap (fun x => x) HB.out.2.2.2.1) hcb))))
 have y1 : W3.cell? ⟨w0.heap.size + 1, 1, none⟩ = some (.slice pa N pc) := blk_cell H3.out.2.2.1 1
 have hz3 : nb < W3.heap.size := heap_lt hcb
 clear hcb
 go_wp2_with fail
 clear y1
 have hWnb : W.heap.size ≤ nb := hnb
 have hzW : w0.heap.size + 1 + 1 < W.heap.size := hWs
 go_loopg [38] N (fun g iv wr => ∃ i u ua uc hs, i ≤ N ∧ g = N - i ∧ iv = .int .i64 (i : Nat) ∧ Hid (walkN S (L.getD j ty0) p.path i = some (u, hs) ∧ SpSt S wb W3 nb wr u ua uc ok hs))
 case atStart => exact ⟨0, t, ta, tc, [], by omega, by omega, rfl, Lib.hid ⟨by rw [← HT.out.2]; rfl, KB.refl _ _, H3.out.2.2.2.2, HT.out.1⟩⟩
 case round =>
  obtain ⟨i, u, ua, uc, hs, hi, rfl, rfl, hst⟩ := hrel
  obtain ⟨wi, rfl⟩ : ∃ w, w = wr := ⟨_, rfl⟩
  have K0 := Lib.hid (hst.out.2.kb0 H3.out.1 (show w0.heap.size ≤ nb by omega))
  have HR := Lib.hid (hst.out.2.kb.heap (b := w0.heap.size + 1 + 1) (by omega) H3.out.2.2.2.1)
  have hnbi : nb < wi.heap.size := heap_lt hst.out.2.cell
  by_cases hit : i < N
  ·have hiI : (i : Int) < (N : Int) := by omega
   have dI : decide ((i : Int) < (N : Int)) = true := decide_eq_true hiI
   obtain ⟨pb, po, rfl, hpk⟩ := HH.out.2.2.1.ints i (by rw [← HH.out.2.2.2.2.2.2.1]; exact hit)
   have hpk := K0.out.cell (p := ⟨pb, po + i, none⟩) (fun x => x) hpk
   obtain ⟨k, hk⟩ : ∃ k, k = p.path.getD i 0 := ⟨_, rfl⟩
   rw [← hk] at hpk
   have HKK := Lib.hid hk
   have hX3 := hst.out.2.cell
   have d0 : wi.cell? ⟨nb, 0, none⟩ = some (.int .u8 u.k) := blk_cell hX3 0
   have d1 : wi.cell? ⟨nb, 1, none⟩ = some (.bool u.m) := blk_cell hX3 1
   have d2 : wi.cell? ⟨nb, 2, none⟩ = some (.int .i64 u.r) := blk_cell hX3 2
   have d3 : wi.cell? ⟨nb, 3, none⟩ = some (.int .i64 u.s) := blk_cell hX3 3
   have d4 : wi.cell? ⟨nb, 4, none⟩ = some (.slice ua u.of.length uc) := blk_cell hX3 4
   clear hk hX3
   go_upto_region 9 with fail
   clear hpk d0 d1 d2 d3 d4
   obtain ⟨W4, hW4⟩ : ∃ W4, W4 = wi.alloc (.cells #[.int .u8 u.k, .bool u.m, .int .i64 u.r, .int .i64 u.s, .slice ua u.of.length uc] 26) := ⟨_, rfl⟩
   obtain ⟨T, hT⟩ : ∃ T, T = wi.heap.size := ⟨_, rfl⟩
   have k4 := (KB.refl F0 wi).alloc (.cells #[.int .u8 u.k, .bool u.m, .int .i64 u.r, .int .i64 u.s, .slice ua u.of.length uc] 26)
   have b4 := alloc_new wi (.cells #[.int .u8 u.k, .bool u.m, .int .i64 u.r, .int .i64 u.s, .slice ua u.of.length uc] 26)
   rw [← hW4] at k4 b4
   rw [← hW4, ← hT]
   rw [← hT] at b4
   have hX4 := k4.heap (fun x => x) hst.out.2.cell
   have K4 := Lib.hid (And.intro (K0.out.trans k4) (And.intro k4 b4))
   have sk := k4.heap (fun x => x) (hst.out.2.kb.heap (b := w0.heap.size) (by omega) H3.out.2.1)
   have s0 : W4.cell? ⟨w0.heap.size, 0, none⟩ = some (.slice sa nS sc) := blk_cell sk 0
   have d0 : W4.cell? ⟨nb, 0, none⟩ = some (.int .u8 u.k) := blk_cell hX4 0
   have d1 : W4.cell? ⟨nb, 1, none⟩ = some (.bool u.m) := blk_cell hX4 1
   have d2 : W4.cell? ⟨nb, 2, none⟩ = some (.int .i64 u.r) := blk_cell hX4 2
   have d3 : W4.cell? ⟨nb, 3, none⟩ = some (.int .i64 u.s) := blk_cell hX4 3
   have d4 : W4.cell? ⟨nb, 4, none⟩ = some (.slice ua u.of.length uc) := blk_cell hX4 4
   have d5 : W4.cell? ⟨nb, 5, none⟩ = some (.int .i64 (mostI hs)) := blk_cell hX4 5
   have f0 := blk_frozen hX4 0
   have f1 := blk_frozen hX4 1
   have f2 := blk_frozen hX4 2
   have f3 := blk_frozen hX4 3
   have f4 := blk_frozen hX4 4
   have f5 := blk_frozen hX4 5
   have e0 : W4.cell? ⟨T, 0, none⟩ = some (.int .u8 u.k) := blk_cell b4 0
   have e1 : W4.cell? ⟨T, 1, none⟩ = some (.bool u.m) := blk_cell b4 1
   have e3 : W4.cell? ⟨T, 3, none⟩ = some (.int .i64 u.s) := blk_cell b4 3
   have e4 : W4.cell? ⟨T, 4, none⟩ = some (.slice ua u.of.length uc) := blk_cell b4 4
   have hnT : nb ≠ T := by omega
   have HR4 := Lib.hid (k4.heap (fun x => x) HR.out)
   have r0 := blk_frozen HR4.out 0
   have r1 := blk_frozen HR4.out 1
   have r2 := blk_frozen HR4.out 2
   have r3 := blk_frozen HR4.out 3
   have r4 := blk_frozen HR4.out 4
   have r5 := blk_frozen HR4.out 5
   have r6 := blk_frozen HR4.out 6
   have q0 : W4.cell? ⟨w0.heap.size + 1 + 1, 0, none⟩ = some (.int .u8 0) := blk_cell HR4.out 0
   have q1 : W4.cell? ⟨w0.heap.size + 1 + 1, 1, none⟩ = some (.bool false) := blk_cell HR4.out 1
   have q2 : W4.cell? ⟨w0.heap.size + 1 + 1, 2, none⟩ = some (.int .i64 0) := blk_cell HR4.out 2
   have q3 : W4.cell? ⟨w0.heap.size + 1 + 1, 3, none⟩ = some (.int .i64 0) := blk_cell HR4.out 3
   have q4 : W4.cell? ⟨w0.heap.size + 1 + 1, 4, none⟩ = some (.slice none 0 0) := blk_cell HR4.out 4
   have q5 : W4.cell? ⟨w0.heap.size + 1 + 1, 5, none⟩ = some (.int .i64 0) := blk_cell HR4.out 5
   have q6 : W4.cell? ⟨w0.heap.size + 1 + 1, 6, none⟩ = some (.bool false) := blk_cell HR4.out 6
   have HT4 := Lib.hid (And.intro hW4 hT)
   clear sk hX4 b4 k4 hW4 hT
   by_cases hk1 : k = -1
   ·subst hk1
    by_cases hkd : u.k = 3
    ·skip
     have hsp : stepP S u (-1) = some (in0 u, 1) := by unfold stepP; rw [if_pos ⟨rfl, hkd⟩]
     obtain ⟨ib, io, ia, ic, rfl, hone, huc, hic, hin⟩ := hst.out.2.on.deref (Or.inl hkd)
     have hib : ib ≠ nb := by have := heap_ltc hic.1; simp only at this; omega
     have hic := hic.kbF (HWB.out.trans K4.out.1)
     obtain ⟨j0, j1, j2, j3, j4⟩ := hic
     rw [hone] at d4 e4
     obtain ⟨v, hv⟩ : ∃ v, v = in0 u := ⟨_, rfl⟩
     rw [← hv] at j0 j1 j2 j3 j4 hin hsp
     have hwn : walkN S (L.getD j ty0) p.path (i + 1) = some (v, hs ++ [1]) := walkN_step hst.out.1 (by rw [← HKK.out]; exact hsp)
     have hucI : (1 : Int) ≤ (uc : Int) := by omega
     have HN := Lib.hid (And.intro hwn (hst.out.2.nextW 1 K4.out.2.1 hin))
     simp only [set5, mostI_app] at HN
     generalize mostI hs = m at d5 HN
     rw [hkd] at e0
     clear hwn hin hsp hst hv
     go_wp2_with fail
     all_goals
      go_roundg (N - (i + 1))
      case measure => omega
      case rel =>
       refine ⟨i + 1, v, ia, ic, hs ++ [1], by omega, rfl, by go_num, ?_⟩
       first
        | (have e : max m 1 = m := by omega
           rw [e] at HN; exact HN)
        | (have e : max m 1 = 1 := by omega
           rw [e] at HN; exact HN)
    ·have e3 : (u.k == 3) = false := by simpa using hkd
     by_cases hk4 : u.k = 4
     ·clear e3
      have hkd := hk4
      by_cases hmd : u.m = true
      ·skip
       have hsp : stepP S u (-1) = some (in0 u, 2) := by unfold stepP; rw [if_neg (by omega), if_pos ⟨rfl, hkd, hmd⟩]
       obtain ⟨ib, io, ia, ic, rfl, hone, huc, hic, hin⟩ := hst.out.2.on.deref (Or.inr hkd)
       have hib : ib ≠ nb := by have := heap_ltc hic.1; simp only at this; omega
       have hic := hic.kbF (HWB.out.trans K4.out.1)
       obtain ⟨j0, j1, j2, j3, j4⟩ := hic
       rw [hone] at d4 e4
       obtain ⟨v, hv⟩ : ∃ v, v = in0 u := ⟨_, rfl⟩
       rw [← hv] at j0 j1 j2 j3 j4 hin hsp
       have hwn : walkN S (L.getD j ty0) p.path (i + 1) = some (v, hs ++ [2]) := walkN_step hst.out.1 (by rw [← HKK.out]; exact hsp)
       have hucI : (1 : Int) ≤ (uc : Int) := by omega
       have HN := Lib.hid (And.intro hwn (hst.out.2.nextW 2 K4.out.2.1 hin))
       simp only [set5, mostI_app] at HN
       generalize mostI hs = m at d5 HN
       rw [hkd] at e0
       rw [hmd] at e1
       clear hwn hin hsp hst hv
       go_wp2_with fail
       all_goals
        go_roundg (N - (i + 1))
        case measure => omega
        case rel =>
         refine ⟨i + 1, v, ia, ic, hs ++ [2], by omega, rfl, by go_num, ?_⟩
         first
          | (have e : max m 2 = m := by omega
             rw [e] at HN; exact HN)
          | (have e : max m 2 = 2 := by omega
             rw [e] at HN; exact HN)
      ·have hmd : u.m = false := by simpa using hmd
       have hsp : stepP S u (-1) = some (in0 u, 3) := by unfold stepP; rw [if_neg (by omega), if_neg (by simp [hmd]), if_pos ⟨rfl, hkd⟩]
       obtain ⟨ib, io, ia, ic, rfl, hone, huc, hic, hin⟩ := hst.out.2.on.deref (Or.inr hkd)
       have hib : ib ≠ nb := by have := heap_ltc hic.1; simp only at this; omega
       have hic := hic.kbF (HWB.out.trans K4.out.1)
       obtain ⟨j0, j1, j2, j3, j4⟩ := hic
       rw [hone] at d4 e4
       obtain ⟨v, hv⟩ : ∃ v, v = in0 u := ⟨_, rfl⟩
       rw [← hv] at j0 j1 j2 j3 j4 hin hsp
       have hwn : walkN S (L.getD j ty0) p.path (i + 1) = some (v, hs ++ [3]) := walkN_step hst.out.1 (by rw [← HKK.out]; exact hsp)
       have hucI : (1 : Int) ≤ (uc : Int) := by omega
       have HN := Lib.hid (And.intro hwn (hst.out.2.nextW 3 K4.out.2.1 hin))
       simp only [set5, mostI_app] at HN
       generalize mostI hs = m at d5 HN
       rw [hkd] at e0
       rw [hmd] at e1
       clear hwn hin hsp hst hv
       go_wp2_with fail
       all_goals
        go_roundg (N - (i + 1))
        case measure => omega
        case rel =>
         refine ⟨i + 1, v, ia, ic, hs ++ [3], by omega, rfl, by go_num, ?_⟩
         first
          | (have e : max m 3 = m := by omega
             rw [e] at HN; exact HN)
          | (have e : max m 3 = 3 := by omega
             rw [e] at HN; exact HN)
     ·have e4k : (u.k == 4) = false := by simpa using hk4
      have hsp : stepP S u (-1) = none := by unfold stepP; rw [if_neg (by omega), if_neg (by omega), if_neg (by omega), if_pos (by omega)]
      have HO : Hid (O = none) := Lib.hid (by rw [HP.out]; exact walkN_none (walkN_stop hst.out.1 (by rw [← HKK.out]; exact hsp)) (by omega))
      generalize u.k = uk at *
      clear hst hsp
      go_wp2_with fail
      refine ret_spot (X := w0.heap.size + 1 + 1) rfl rfl (set7_blk HR4.out (.int .u8 0) (.bool false) (.int .i64 0) (.int .i64 0) (.slice none 0 0) (.int .i64 0) (.bool false)) rfl ?_
      exact spEnd_none HO.out (set7_new K4.out.1 (show w0.heap.size ≤ w0.heap.size + 1 + 1 by omega) _ _ _ _ _ _ _)
   ·have e1k : (k == -1) = false := by simpa using hk1
    by_cases hkn : k < 0
    ·have dkn : decide (0 ≤ k) = false := decide_eq_false (by omega)
     have hsp : stepP S u k = none := by unfold stepP; rw [if_neg (by omega), if_neg (by omega), if_neg (by omega), if_pos (by omega)]
     have HO : Hid (O = none) := Lib.hid (by rw [HP.out]; exact walkN_none (walkN_stop hst.out.1 (by rw [← HKK.out]; exact hsp)) (by omega))
     clear hst hsp
     go_wp2_with fail
     refine ret_spot (X := w0.heap.size + 1 + 1) rfl rfl (set7_blk HR4.out (.int .u8 0) (.bool false) (.int .i64 0) (.int .i64 0) (.slice none 0 0) (.int .i64 0) (.bool false)) rfl ?_
     exact spEnd_none HO.out (set7_new K4.out.1 (show w0.heap.size ≤ w0.heap.size + 1 + 1 by omega) _ _ _ _ _ _ _)
    ·have dkn : decide (0 ≤ k) = true := decide_eq_true (by omega)
     have hk0 : 0 ≤ k := by omega
     by_cases hkd : u.k = 5
     ·by_cases hkf : ((fds S u.s.toNat).length : Int) ≤ k
      ·have hsp : stepP S u k = none := by unfold stepP; rw [if_neg (by omega), if_neg (by omega), if_neg (by omega), if_pos (by omega)]
       obtain ⟨d9, hd9, hl9, -⟩ := hst.out.2.on
       have hss := look_struct hl9 hkd
       obtain ⟨m, hm⟩ : ∃ m : Nat, u.s = m := ⟨u.s.toNat, by omega⟩
       have hmn : u.s.toNat = m := by omega
       obtain ⟨sb, so, snm, fa2, fc2, e9, -, hfl0, -, -⟩ := HH.out.1 m (by omega)
       rw [e9] at s0
       have hfl := (HWB.out.trans K4.out.1).cell (p := ⟨sb, so + m * 2 + 1, none⟩) (fun x => x) hfl0
       rw [hmn] at hkf
       obtain ⟨F, hF⟩ : ∃ F, F = (fds S m).length := ⟨_, rfl⟩
       rw [show (S.getD m []).length = F from hF.symm] at hfl
       rw [← hF] at hkf
       have dkf : decide (k < (F : Int)) = false := decide_eq_false (by omega)
       have hmI : (m : Int) < (nS : Int) := by rw [HH.out.2.2.2.2.1]; omega
       have hmN : m < nS := by omega
       rw [hkd] at e0
       rw [hm] at e3
       clear hF hss hl9 hd9 hfl0 e9
       have HO : Hid (O = none) := Lib.hid (by rw [HP.out]; exact walkN_none (walkN_stop hst.out.1 (by rw [← HKK.out]; exact hsp)) (by omega))
       clear hst hsp
       go_wp2_with fail
       refine ret_spot (X := w0.heap.size + 1 + 1) rfl rfl (set7_blk HR4.out (.int .u8 0) (.bool false) (.int .i64 0) (.int .i64 0) (.slice none 0 0) (.int .i64 0) (.bool false)) rfl ?_
       exact spEnd_none HO.out (set7_new K4.out.1 (show w0.heap.size ≤ w0.heap.size + 1 + 1 by omega) _ _ _ _ _ _ _)
      ·obtain ⟨z, hz⟩ : ∃ z : Nat, k = z := ⟨k.toNat, by omega⟩
       have hzl : z < (fds S u.s.toNat).length := by omega
       have hsp : stepP S u k = some ((fds S u.s.toNat).getD z ty0, 0) := by
        unfold stepP
        rw [if_neg (by omega), if_neg (by omega), if_neg (by omega), if_neg (by omega), hz]; rfl
       obtain ⟨m, sb, so, fb, fo, fc2, ia, ic, hms, hmn, e9, hfl, hflc, hic, hin⟩ := hst.out.2.on.field HM.out.1 HH.out.1 hkd hzl
       rw [e9] at s0
       have hsb : sb ≠ nb := by have := heap_ltc hfl; simp only at this; omega
       have hfl := (HWB.out.trans K4.out.1).cell (p := ⟨sb, so + m * 2 + 1, none⟩) (fun x => x) hfl
       have hfb : fb ≠ nb := by have := heap_ltc hic.1; simp only at this; omega
       obtain ⟨j0, j1, j2, j3, j4⟩ := hic.kbF (HWB.out.trans K4.out.1)
       obtain ⟨v, hv⟩ : ∃ v, v = (fds S u.s.toNat).getD z ty0 := ⟨_, rfl⟩
       rw [← hv] at j0 j1 j2 j3 j4 hin hsp
       obtain ⟨F, hF⟩ : ∃ F, F = (fds S u.s.toNat).length := ⟨_, rfl⟩
       rw [← hF] at hfl hflc hzl hkf
       have hwn : walkN S (L.getD j ty0) p.path (i + 1) = some (v, hs ++ [0]) := walkN_step hst.out.1 (by rw [← HKK.out]; exact hsp)
       have hmI : (m : Int) < (nS : Int) := by rw [HH.out.2.2.2.2.1]; omega
       have hmN : m < nS := by omega
       subst hz
       have hzI : (z : Int) < (F : Int) := by omega
       have dz1 : decide ((z : Int) < (F : Int)) = true := decide_eq_true hzI
       have dz2 : decide (z < F) = true := decide_eq_true hzl
       have HN := Lib.hid (And.intro hwn (hst.out.2.nextF K4.out.2.1 hin))
       simp only [set5] at HN
       rw [hkd] at e0
       rw [hms] at e3
       clear hwn hin hsp hst hv hF hic e9
       go_wp2_with fail
       all_goals
        go_roundg (N - (i + 1))
        case measure => omega
        case rel => exact ⟨i + 1, v, ia, ic, hs ++ [0], by omega, rfl, by go_num, HN⟩
     ·have e5 : (u.k == 5) = false := by simpa using hkd
      have hsp : stepP S u k = none := by unfold stepP; rw [if_neg (by omega), if_neg (by omega), if_neg (by omega), if_pos (by omega)]
      have HO : Hid (O = none) := Lib.hid (by rw [HP.out]; exact walkN_none (walkN_stop hst.out.1 (by rw [← HKK.out]; exact hsp)) (by omega))
      generalize u.k = uk at *
      clear hst hsp
      go_wp2_with fail
      refine ret_spot (X := w0.heap.size + 1 + 1) rfl rfl (set7_blk HR4.out (.int .u8 0) (.bool false) (.int .i64 0) (.int .i64 0) (.slice none 0 0) (.int .i64 0) (.bool false)) rfl ?_
      exact spEnd_none HO.out (set7_new K4.out.1 (show w0.heap.size ≤ w0.heap.size + 1 + 1 by omega) _ _ _ _ _ _ _)
  ·obtain rfl : i = N := by omega
   have dI : decide ((i : Int) < (i : Int)) = false := decide_eq_false (by omega)
   have hX3 := hst.out.2.cell
   have d0 : wi.cell? ⟨nb, 0, none⟩ = some (.int .u8 u.k) := blk_cell hX3 0
   have d1 : wi.cell? ⟨nb, 1, none⟩ = some (.bool u.m) := blk_cell hX3 1
   have d2 : wi.cell? ⟨nb, 2, none⟩ = some (.int .i64 u.r) := blk_cell hX3 2
   have d3 : wi.cell? ⟨nb, 3, none⟩ = some (.int .i64 u.s) := blk_cell hX3 3
   have d4 : wi.cell? ⟨nb, 4, none⟩ = some (.slice ua u.of.length uc) := blk_cell hX3 4
   have d5 : wi.cell? ⟨nb, 5, none⟩ = some (.int .i64 (mostI hs)) := blk_cell hX3 5
   have d6 : wi.cell? ⟨nb, 6, none⟩ = some (.bool ok) := blk_cell hX3 6
   have r0 := blk_frozen HR.out 0
   have r1 := blk_frozen HR.out 1
   have r2 := blk_frozen HR.out 2
   have r3 := blk_frozen HR.out 3
   have r4 := blk_frozen HR.out 4
   have r5 := blk_frozen HR.out 5
   have r6 := blk_frozen HR.out 6
   have q0 : wi.cell? ⟨w0.heap.size + 1 + 1, 0, none⟩ = some (.int .u8 0) := blk_cell HR.out 0
   have q1 : wi.cell? ⟨w0.heap.size + 1 + 1, 1, none⟩ = some (.bool false) := blk_cell HR.out 1
   have q2 : wi.cell? ⟨w0.heap.size + 1 + 1, 2, none⟩ = some (.int .i64 0) := blk_cell HR.out 2
   have q3 : wi.cell? ⟨w0.heap.size + 1 + 1, 3, none⟩ = some (.int .i64 0) := blk_cell HR.out 3
   have q4 : wi.cell? ⟨w0.heap.size + 1 + 1, 4, none⟩ = some (.slice none 0 0) := blk_cell HR.out 4
   have q5 : wi.cell? ⟨w0.heap.size + 1 + 1, 5, none⟩ = some (.int .i64 0) := blk_cell HR.out 5
   have q6 : wi.cell? ⟨w0.heap.size + 1 + 1, 6, none⟩ = some (.bool false) := blk_cell HR.out 6
   have HE2 : Hid (SpEnd S wb w0 ok O (.returned (spV u ua uc (mostI hs) ok)) (set7 wi (w0.heap.size + 1 + 1) (.int .u8 u.k) (.bool u.m) (.int .i64 u.r) (.int .i64 u.s) (.slice ua u.of.length uc) (.int .i64 (mostI hs)) (.bool ok))) := Lib.hid (by
    rw [HP.out, hst.out.1]
    exact ⟨set7_new K0.out (show w0.heap.size ≤ w0.heap.size + 1 + 1 by omega) _ _ _ _ _ _ _, ua, uc, rfl, hst.out.2.on⟩)
   clear hst hX3
   go_wp2_with fail
   exact ret_spot (X := w0.heap.size + 1 + 1) rfl rfl (set7_blk HR.out (.int .u8 u.k) (.bool u.m) (.int .i64 u.r) (.int .i64 u.s) (.slice ua u.of.length uc) (.int .i64 (mostI hs)) (.bool ok)) rfl HE2.out
end Go.Proofs.YtaeppaaolkcbbaaGreatDoor

/- place.May at any structs. layout.Shape. Shapes, plain; lists of boxes and shapes in memory; layout.Shapes' closure. -/
import Derived.Test.YtaeppaaolkcbbaaGreatDoorMg41
import Derived.Test.YtaeppaaolkcbbaaGreatDoorMg39
import Derived.Test.YtaeppaaolkcbbaaGreatDoorMg07
import Derived.Test.YtaeppaaolkcbbaaGreatDoorMg09
import Derived.Test.YtaeppaaolkcbbaaGreatDoorMg26
namespace Go.Proofs.YtaeppaaolkcbbaaGreatDoor
open Go.RowKit

def hows (o : Option (Ty × List Int)) : List Int := match o with | some x => x.2 | none => []
def WkV (S : List (List Ty)) (w : World) (o : Option (Ty × List Int)) (e : Ending) (w' : World) : Prop :=
 ∃ (k : Int) (m : Bool) (r s : Int) (va : Option Addr) (vn vc : Nat) (ga : Option Addr) (gc : Nat), e = .returned (.tuple #[.agg #[.int .u8 k, .bool m, .int .i64 r, .int .i64 s, .slice va vn vc], .slice ga (hows o).length gc, .bool o.isSome]) ∧
  w'.ownsRow w.heap.size 3 1 (.slice ga (hows o).length gc) (hows o).length (intsV (hows o)) ∧ KB F0 w w'
theorem wkV_of {S : List (List Ty)} {w w' : World} {o : Option (Ty × List Int)} {e : Ending} (h : WkEnd S w o e w') : WkV S w o e w' := by
 obtain ⟨hk, h⟩ := h
 cases o with
 | none => exact ⟨_, _, _, _, _, _, _, none, 0, h, World.ownsRow_nil _ _ _ _, hk⟩
 | some x =>
  obtain ⟨ta, tc, gv, he, -, ho⟩ := h
  obtain ⟨a, c, rfl, -⟩ := own_shape ho
  exact ⟨_, _, _, _, _, _, _, a, c, he, ho, hk⟩
set_option maxRecDepth 100000 in
set_option maxHeartbeats 16000000 in
theorem plMay_any (S : List (List Ty)) (hn : S.length ≤ 1000000) (hl : ∀ i, (fds S i).length ≤ 1000000) (sa : Option Addr) (sc : Nat) (hsc : S.length ≤ sc) (L : List Ty) (hll : L.length ≤ 1000000) (la : Option Addr) (lc : Nat) (p : Pl) (pa : Option Addr) (pc : Nat) (w : World) (hS : StsAt 49 w sa S) (hL : TysAt 49 w la L) (hp : PlAt w p pa pc) :
  Calls Tryz.prog 57 #[.slice sa S.length sc, .slice la L.length lc, plV p pa pc] w fun e w' => e = .returned (.bool (wkP S L p).isSome) ∧ KB F0 w w' := by
 obtain ⟨w0, rfl⟩ : ∃ w0, w0 = w := ⟨_, rfl⟩
 obtain ⟨W, hW⟩ : ∃ W, W = w0.alloc (.cells #[.int .i64 p.loc, .slice pa p.path.length pc] 52) := ⟨_, rfl⟩
 have hk := (KB.refl F0 w0).alloc (.cells #[.int .i64 p.loc, .slice pa p.path.length pc] 52)
 have hb := alloc_new w0 (.cells #[.int .i64 p.loc, .slice pa p.path.length pc] 52)
 rw [← hW] at hk hb
 have p0 : W.cell? ⟨w0.heap.size, 0, none⟩ = some (.int .i64 p.loc) := blk_cell hb 0
 have p1 : W.cell? ⟨w0.heap.size, 1, none⟩ = some (.slice pa p.path.length pc) := blk_cell hb 1
 have WK := Lib.hid (plWalk_any S hn hl sa sc hsc L hll la lc p pa pc W (hS.kbF hk) (hL.kbF hk) (hp.kbF hk))
 have HK := Lib.hid hk
 have HW := Lib.hid hW
 unfold plV at WK ⊢
 generalize wkP S L p = o at *
 generalize S.length = nS at *
 generalize L.length = nL at *
 generalize p.path.length = N at *
 generalize p.loc = x at *
 clear hk hb hW hS hL hp
 go_enter Tryz.func57, Tryz.ntmps57
 go_upto_region 1 with fail
 rw [← HW.out]
 go_wp2_with fail
 refine WK.out.mono ?_
 rintro e w1 hE
 obtain ⟨k, m, r, s, va, vn, vc, ga, gc, rfl, -, k1⟩ := wkV_of hE
 have K1 := Lib.hid (HK.out.trans (k1.alloc (.cells #[.int .u8 k, .bool m, .int .i64 r, .int .i64 s, .slice va vn vc] 26)))
 clear hE k1 p0 p1 WK
 go_wp2_with fail
 go_ret
 exact ⟨rfl, K1.out⟩

def ShEnd (S : List (List Ty)) (Fs : List Gr) (u : AskA) (t : Ty) (w : World) (e : Ending) (w' : World) : Prop :=
 KB F0 w w' ∧ ((¬ (MayT S t ∧ UnitP S Fs u.mn) ∧ e = .returned (.tuple #[.int .i64 0, .int .i64 2])) ∨ (MayT S t ∧ UnitP S Fs u.mn ∧ 4096 < (ofL S Fs).length ∧ e = .returned (.tuple #[.int .i64 0, .int .i64 230])) ∨
  (MayT S t ∧ UnitP S Fs u.mn ∧ (ofL S Fs).length ≤ 4096 ∧ e = .returned (.tuple #[.int .i64 ((idxF (ofL S Fs) (keyB t)).getD (-1)), .int .i64 0])))
set_option maxRecDepth 100000 in
set_option maxHeartbeats 32000000 in
theorem lyShapeX_any (S : List (List Ty)) (Fs : List Gr) (u : AskA) (t : Ty) (ta : Option Addr) (tc : Nat) (w : World) (hU : UnAt S Fs u w) (ht : TyAt 49 w t ta tc) :
  Calls Tryz.prog 24 #[.agg (unC S Fs u), tyV t ta tc] w (ShEnd S Fs u t w) := by
 obtain ⟨w0, rfl⟩ : ∃ w0, w0 = w := ⟨_, rfl⟩
 obtain ⟨NF, hNF⟩ : ∃ n, n = Fs.length := ⟨_, rfl⟩
 obtain ⟨NS, hNS⟩ : ∃ n, n = S.length := ⟨_, rfl⟩
 have HN := Lib.hid (And.intro hNF hNS)
 obtain ⟨hk, hb1, hb2⟩ := new2 w0 #[.slice u.sa NS u.sc, .slice u.fa NF u.fc, .int .i64 u.mn] #[.int .u8 t.k, .bool t.m, .int .i64 t.r, .int .i64 t.s, .slice ta t.of.length tc] 49 26
 obtain ⟨W, hW⟩ : ∃ W, W = ((w0.alloc (.cells #[.slice u.sa NS u.sc, .slice u.fa NF u.fc, .int .i64 u.mn] 49)).alloc (.cells #[.int .u8 t.k, .bool t.m, .int .i64 t.r, .int .i64 t.s, .slice ta t.of.length tc] 26)) := ⟨_, rfl⟩
 rw [← hW] at hk hb1 hb2
 have MY := Lib.hid (tyMay_any S hU.hn hU.hl u.sa u.sc hU.hsc t ta tc W (hU.hS.kbF hk) (ht.kbF hk))
 have OF := Lib.hid (fun (V : World) (hV : KB F0 W V) => lyof_any S Fs u V (hU.kbF (hk.trans hV)))
 have u0 : W.cell? ⟨w0.heap.size, 0, none⟩ = some (.slice u.sa NS u.sc) := blk_cell hb1 0
 have t0 : W.cell? ⟨w0.heap.size + 1, 0, none⟩ = some (.int .u8 t.k) := blk_cell hb2 0
 have t1 : W.cell? ⟨w0.heap.size + 1, 1, none⟩ = some (.bool t.m) := blk_cell hb2 1
 have t2 : W.cell? ⟨w0.heap.size + 1, 2, none⟩ = some (.int .i64 t.r) := blk_cell hb2 2
 have t3 : W.cell? ⟨w0.heap.size + 1, 3, none⟩ = some (.int .i64 t.s) := blk_cell hb2 3
 have t4 : W.cell? ⟨w0.heap.size + 1, 4, none⟩ = some (.slice ta t.of.length tc) := blk_cell hb2 4
 unfold unC at OF ⊢
 unfold tyV at MY ⊢
 rw [← hNF, ← hNS] at OF ⊢
 rw [← hNS] at MY
 have HW := Lib.hid hW
 have HB := Lib.hid (And.intro hk (And.intro hb1 (And.intro hb2 ht)))
 clear hk hb1 hb2 hU ht hW hNF hNS
 go_enter Tryz.func24, Tryz.ntmps24
 go_upto_region 1 with fail
 rw [← HW.out]
 go_wp2_with fail
 refine MY.out.mono ?_
 rintro e w1 ⟨ok, rfl, hok, k1⟩
 have H1 := Lib.hid (And.intro hok k1)
 have b1 := k1.heap (fun x => x) HB.out.2.1
 have b2 := k1.heap (fun x => x) HB.out.2.2.1
 clear hok k1 MY u0 t0 t1 t2 t3 t4
 cases ok with
 | false =>
  have HNO : Hid (¬ (MayT S t ∧ UnitP S Fs u.mn)) := Lib.hid (fun h => absurd (H1.out.1.2 h.1) (by decide))
  clear OF b1 b2
  go_wp2_with fail
  go_ret2
  exact ⟨HB.out.1.trans H1.out.2, Or.inl ⟨HNO.out, rfl⟩⟩
 | true =>
 have HMY : Hid (MayT S t) := Lib.hid (H1.out.1.1 rfl)
 have u0 : w1.cell? ⟨w0.heap.size, 0, none⟩ = some (.slice u.sa NS u.sc) := blk_cell b1 0
 have u1 : w1.cell? ⟨w0.heap.size, 1, none⟩ = some (.slice u.fa NF u.fc) := blk_cell b1 1
 have u2 : w1.cell? ⟨w0.heap.size, 2, none⟩ = some (.int .i64 u.mn) := blk_cell b1 2
 have HB2 := Lib.hid b2
 clear b1 b2
 go_wp2_with fail
 refine (OF.out w1 H1.out.2).mono ?_
 rintro e w2 ⟨k2, hE⟩
 have H2 := Lib.hid (HB.out.1.trans (H1.out.2.trans k2))
 have b2 := k2.heap (fun x => x) HB2.out
 clear u0 u1 u2 k2 OF
 rcases hE with ⟨hno, rfl⟩ | ⟨hup, h40, rfl⟩ | ⟨hup, h40, X, mb, rfl, hT⟩
 ·have HNO : Hid (¬ (MayT S t ∧ UnitP S Fs u.mn)) := Lib.hid (fun h => hno h.2)
  clear hno b2
  go_wp2_with fail
  go_ret2
  exact ⟨H2.out, Or.inl ⟨HNO.out, rfl⟩⟩
 ·have HR := Lib.hid (And.intro hup h40)
  clear hup h40 b2
  go_wp2_with fail
  go_ret2
  exact ⟨H2.out, Or.inr (Or.inl ⟨HMY.out, HR.out.1, HR.out.2, rfl⟩)⟩
 ·obtain ⟨v, us, hT⟩ := hT
  have SH := Lib.hid (lyshape_any _ _ _ _ _ _ _ _ _ w2 hT t ta tc (look_mono HMY.out.1.len (Nat.le_refl 48) HMY.out.2) (HB.out.2.2.2.kbF H2.out))
  unfold tyV at SH
  have HR := Lib.hid (And.intro hup h40)
  have t0 : w2.cell? ⟨w0.heap.size + 1, 0, none⟩ = some (.int .u8 t.k) := blk_cell b2 0
  have t1 : w2.cell? ⟨w0.heap.size + 1, 1, none⟩ = some (.bool t.m) := blk_cell b2 1
  have t2 : w2.cell? ⟨w0.heap.size + 1, 2, none⟩ = some (.int .i64 t.r) := blk_cell b2 2
  have t3 : w2.cell? ⟨w0.heap.size + 1, 3, none⟩ = some (.int .i64 t.s) := blk_cell b2 3
  have t4 : w2.cell? ⟨w0.heap.size + 1, 4, none⟩ = some (.slice ta t.of.length tc) := blk_cell b2 4
  clear hup h40 b2 hT
  go_wp2_with fail
  refine SH.out.mono ?_
  rintro e w3 ⟨rfl, k3⟩
  have H3 := Lib.hid (H2.out.trans k3)
  clear k3 SH t0 t1 t2 t3 t4
  go_wp2_with fail
  go_ret2
  exact ⟨H3.out, Or.inr (Or.inr ⟨HMY.out, HR.out.1, HR.out.2, rfl⟩)⟩

def bxAt (S : List (List Ty)) (L : List Ty) (x : Nat × Ty) : Int × Int × Int := ((x.1 : Int), (clsW (wF S 34 x.2)).1, (idxF L (keyB x.2)).getD (-1))
def shF (S : List (List Ty)) (L : List Ty) (t : Ty) : Int × List (Int × Int × Int) := ((wF S 34 t : Nat), (bxF S 34 t 0).map (bxAt S L))
theorem bxF_look {S : List (List Ty)} (hg : GoodS S) : ∀ (n : Nat) (t : Ty) (a : Nat), lookB S.length 48 t = true → ∀ x ∈ bxF S n t a, lookB S.length 47 x.2 = true := by
 intro n
 induction n with
 | zero => intro t a _ x hx; cases hx
 | succ n ih =>
  intro t a hlk x hx
  unfold bxF at hx
  by_cases h3 : t.k = 3
  ·rw [if_pos h3] at hx
   simp only [List.mem_singleton] at hx
   subst hx
   exact (look_box hlk h3).2
  ·rw [if_neg h3] at hx
   by_cases h5 : t.k = 5
   ·rw [if_pos h5] at hx
    have : ∀ (l : List Ty) (a : Nat), (∀ f ∈ l, f ∈ fds S t.s.toNat) → ∀ x ∈ bxL (bxF S n) (wF S n) l a, lookB S.length 47 x.2 = true := by
     intro l
     induction l with
     | nil => intro a _ x hx; cases hx
     | cons f l ihl =>
      intro a hf x hx
      unfold bxL at hx
      rcases List.mem_append.1 hx with hx | hx
      ·exact ih f a (hg.look (hf f (List.mem_cons_self ..))) x hx
      ·exact ihl _ (fun f' hf' => hf f' (List.mem_cons_of_mem _ hf')) x hx
    exact this _ a (fun f hf => hf) x hx
   ·rw [if_neg h5] at hx; cases hx
theorem meetN_look {S : List (List Ty)} (hg : GoodS S) : ∀ (n : Nat) (t : Ty) (L : List Ty), lookB S.length 48 t = true → (∀ u ∈ L, lookB S.length 48 u = true) → ∀ u ∈ meetN S n t L, lookB S.length 48 u = true := by
 intro n
 induction n with
 | zero => intro t L _ h; exact h
 | succ n ih =>
  intro t L ht hL
  unfold meetN
  split
  ·exact hL
  ·have h1 : ∀ u ∈ L ++ [t], lookB S.length 48 u = true := fun u hu => by
    rcases List.mem_append.1 hu with hu | hu
    ·exact hL u hu
    ·rw [List.mem_singleton] at hu; subst hu; exact ht
   have : ∀ (l : List (Nat × Ty)) (L1 : List Ty), (∀ x ∈ l, lookB S.length 47 x.2 = true) → (∀ u ∈ L1, lookB S.length 48 u = true) → ∀ u ∈ meetL (meetN S n) l L1, lookB S.length 48 u = true := by
    intro l
    induction l with
    | nil => intro L1 _ h; exact h
    | cons x l ihl =>
     intro L1 hl hL1
     exact ihl _ (fun y hy => hl y (List.mem_cons_of_mem _ hy)) (ih x.2 L1 (look_mono (Nat.le_refl _) (by decide) (hl x (List.mem_cons_self ..))) hL1)
   exact this _ _ (bxF_look hg 34 t 0 ht) h1
theorem loL_look {S : List (List Ty)} (hg : GoodS S) : ∀ (l L : List Ty), (∀ t ∈ l, lookB S.length 48 t = true) → (∀ u ∈ L, lookB S.length 48 u = true) → ∀ u ∈ loL S l L, lookB S.length 48 u = true := by
 intro l
 induction l with
 | nil => intro L _ h; exact h
 | cons t l ih => intro L hl hL; exact ih _ (fun y hy => hl y (List.mem_cons_of_mem _ hy)) (meetN_look hg 4098 t L (hl t (List.mem_cons_self ..)) hL)
theorem stL_look {S : List (List Ty)} (hg : GoodS S) : ∀ i, i ≤ S.length → ∀ u ∈ stL S i, lookB S.length 48 u = true := by
 intro i
 induction i with
 | zero => intro _ u hu; cases hu
 | succ i ih => intro hi; rw [stL_succ]; exact meetN_look hg 4098 _ _ (sTy_look (by omega)) (ih (by omega))
theorem ofL_look {S : List (List Ty)} {Fs : List Gr} {mn : Int} (h : UnitP S Fs mn) : ∀ u ∈ ofL S Fs, lookB S.length 48 u = true := by
 have : ∀ q, q ≤ Fs.length → ∀ u ∈ fnL S Fs q, lookB S.length 48 u = true := by
  intro q
  induction q with
  | zero => intro _; exact stL_look h.good _ (Nat.le_refl _)
  | succ q ih =>
   intro hq
   rw [fnL_succ S Fs q (by omega)]
   exact loL_look h.good _ _ (headP_all h.good (h.heads q (by omega))).2 (ih (by omega))
 exact this _ (Nat.le_refl _)
def bxCs (l : List (Int × Int × Int)) : List Value := l.flatMap fun x => [.int .i64 x.1, .int .i64 x.2.1, .int .i64 x.2.2]
theorem bxCs_snoc (l : List (Int × Int × Int)) (x : Int × Int × Int) : bxCs (l ++ [x]) = bxCs l ++ [.int .i64 x.1, .int .i64 x.2.1, .int .i64 x.2.2] := by
 unfold bxCs; rw [List.flatMap_append]; rfl
theorem Tryz.infoBxA : (Tryz.prog.info? 61).map (fun i => (i.zero, i.size, i.bytes)) = some (some (.agg #[.int .i64 0, .int .i64 0, .int .i64 0]), 3, 24) := by kernel_rfl
theorem Tryz.underlying30' : Tryz.prog.underlying 30 = some (.slice 61) := by kernel_rfl
structure SxAt (w00 : World) (N : Nat) (sa : Option Addr) (sc X mb : Nat) (L : List Ty) (B4 b : Nat) (wd : Int) (v : Value) (l : List (Int × Int × Int)) (W : World) : Prop where
 kb : KB F0 w00 W
 lo : w00.heap.size ≤ b
 cell : W.heap[b]? = some (.cells #[.int .i64 wd, v] 32 (0, 0))
 own : W.ownsRow w00.heap.size 61 3 v l.length (bxCs l)
 ptr : W.heap[B4]? = some (.cells #[.pointer (some ⟨X, 0, none⟩)] 104 (0, 0))
 tab : TabInv w00 N sa sc X mb L W
theorem SxAt.kbF {w00 : World} {N : Nat} {sa : Option Addr} {sc X mb : Nat} {L : List Ty} {B4 b : Nat} {wd : Int} {v : Value} {l : List (Int × Int × Int)} {w w' : World} (h : SxAt w00 N sa sc X mb L B4 b wd v l w) (hk : KB F0 w w') : SxAt w00 N sa sc X mb L B4 b wd v l w' :=
 ⟨h.kb.trans hk, h.lo, hk.heap (fun x => x) h.cell, own_kb h.own hk (fun _ _ x => x), hk.heap (fun x => x) h.ptr, by obtain ⟨v, us, hT⟩ := h.tab; exact ⟨v, us, hT.kbF hk⟩⟩
def SxInv (w00 : World) (S : List (List Ty)) (sa : Option Addr) (sc X mb : Nat) (L : List Ty) (B4 b : Nat) (wd : Int) (l : List (Nat × Ty)) (W : World) : Prop := ∃ v, SxAt w00 S.length sa sc X mb L B4 b wd v (l.map (bxAt S L)) W
def SxP (b : Nat) (W : World) (k : Nat) : Prop := k = b ∨ ∃ c0 v, W.heap[b]? = some (.cells #[c0, v] 32 (0, 0)) ∧ v.ownBlock = some k
theorem sx_met (w00 : World) (S : List (List Ty)) (sa : Option Addr) (sc X mb : Nat) (L : List Ty) (B4 b : Nat) (wd : Int) : MetOk w00 (SxP b) (SxInv w00 S sa sc X mb L B4 b wd) where
 kb := fun l W ⟨v, h⟩ => h.kb
 mono := fun l W W' ⟨v, h⟩ hk => ⟨⟨v, h.kbF hk⟩, fun k hp => by
  rcases hp with rfl | ⟨c0, u, h1, h2⟩
  ·exact Or.inl (Or.inl rfl)
  ·rw [hk.heap (fun x => x) h.cell] at h1
   simp only [Option.some.injEq, Obj.cells.injEq, Array.mk.injEq, List.cons.injEq, and_true] at h1
   obtain ⟨rfl, rfl⟩ := h1
   exact Or.inl (Or.inr ⟨_, _, h.cell, h2⟩)⟩
 fld := fun l W k cs ⟨v, h⟩ hc hp => by
  rcases hp with rfl | ⟨c0, u, h1, h2⟩
  ·rw [h.cell] at hc
   simp only [Option.some.injEq, Obj.cells.injEq] at hc
   exact absurd hc.2.1 (by decide)
  ·rw [h.cell] at h1
   simp only [Option.some.injEq, Obj.cells.injEq, Array.mk.injEq, List.cons.injEq, and_true] at h1
   obtain ⟨rfl, rfl⟩ := h1
   obtain ⟨c, h3, -⟩ := own_block h.own h2
   rw [h3] at hc
   simp only [Option.some.injEq, Obj.cells.injEq] at hc
   exact absurd hc.2.1 (by decide)
theorem sxP_not {w00 : World} {N : Nat} {sa : Option Addr} {sc X mb : Nat} {L : List Ty} {B4 b : Nat} {wd : Int} {v : Value} {l : List (Int × Int × Int)} {W : World} (h : SxAt w00 N sa sc X mb L B4 b wd v l W) {k : Nat} {o : Obj} (hk : W.heap[k]? = some o) (h1 : ∀ cs, o ≠ .cells cs 32 (0, 0)) (h2 : ∀ cs, o ≠ .cells cs 61 (0, 0)) : ¬ SxP b W k := by
 rintro (rfl | ⟨c0, u, e1, e2⟩)
 ·rw [h.cell] at hk
  exact h1 _ (Option.some.inj hk).symm
 ·rw [h.cell] at e1
  simp only [Option.some.injEq, Obj.cells.injEq, Array.mk.injEq, List.cons.injEq, and_true] at e1
  obtain ⟨rfl, rfl⟩ := e1
  obtain ⟨c, h3, -⟩ := own_block h.own e2
  rw [h3] at hk
  exact h2 _ (Option.some.inj hk).symm
theorem list_app3 {ops : Array Oper} {rest : List Oper} {o : Oper} {a : Act} {Q : Exit → Act → World → Prop} {w : World} (hgd : o.guard = none) (s x : Operand)
  (ho : o.op = .call { callee := .builtin .append, args := #[s, x], argTypes := #[30, 30] }) (base : Nat) (v : Value) (n : Nat) (us : List Value) (hs : a.eval s = v) (hown : w.ownsRow base 61 3 v n us)
  (nb c : Nat) (cs : List Value) (hx : a.eval x = .slice (some ⟨nb, 0, none⟩) 1 c) (hl : cs.length = 3) (hb : w.heap[nb]? = some (.cells cs.toArray 61 (0, 0))) (h1 : ∀ u ∈ cs, u.oneCell' = true) (hn : n ≤ 1000000) (hbase : base ≤ w.heap.size)
  (h : ∀ g cap w', w'.ownsRow base 61 3 (.slice (some ⟨g, 0, none⟩) (n + 1) cap) (n + 1) (us ++ cs) → KB (fun k => v.ownBlock = some k) w w' → (v.ownBlock = some g ∨ g = w.heap.size) → wpList Tryz.prog ops Q rest (a.put o.dst (.slice (some ⟨g, 0, none⟩) (n + 1) cap)) w') : wpList Tryz.prog ops Q (o :: rest) a w := by
 obtain ⟨i, hi, hz0, hz1, hz2⟩ := info_parts Tryz.infoBxA
 exact wpList_append_lies w hgd s x 30 ho base 61 i _ 3 24 Tryz.underlying30' hi hz0 hz1 hz2 (by decide) (by decide) v n us hs hown ⟨nb, 0, none⟩ 1 c cs hx (by rw [hl]) (cells_of_block hb) h1 (by decide) (by unfold maxLen; omega) (by omega) hbase _ rfl
  (fun g cap w' h1 h2 h3 _ => h g cap w' h1 (KB.ofGrownBy h2) h3)
set_option maxRecDepth 100000 in
set_option maxHeartbeats 32000000 in
theorem sx_step (w00 : World) (S : List (List Ty)) (hg : GoodS S) (sa : Option Addr) (sc : Nat) (hS : StsAt 49 w00 sa S) (X mb : Nat) (L : List Ty) (B4 b : Nat) (wd : Int) :
  BoxStep w00 S 47 #[.pointer (some ⟨B4, 0, none⟩), .pointer (some ⟨b, 0, none⟩)] (SxP b) (SxInv w00 S sa sc X mb L B4 b wd) := by
 intro l p u ua uc w hp hL hinv hlk hu
 obtain ⟨w0, rfl⟩ : ∃ w0, w0 = w := ⟨_, rfl⟩
 obtain ⟨v, hT⟩ := hinv
 obtain ⟨W, hW⟩ : ∃ W, W = w0.alloc (.cells #[.int .u8 u.k, .bool u.m, .int .i64 u.r, .int .i64 u.s, .slice ua u.of.length uc] 26) := ⟨_, rfl⟩
 obtain ⟨kb, hb⟩ := boxTy w0 u ua uc
 rw [← hW] at kb hb
 have hT1 := hT.kbF kb
 obtain ⟨tv, tus, hTab⟩ := hT1.tab
 obtain ⟨c0, c1, c2, c3, c4⟩ := TyCells.of_block hb
 simp only [Nat.zero_add] at c0 c1 c2 c3 c4
 have p0 : W.cell? ⟨B4, 0, none⟩ = some (.pointer (some ⟨X, 0, none⟩)) := blk_cell hT1.ptr 0
 obtain ⟨NS, hNS⟩ : ∃ n, n = S.length := ⟨_, rfl⟩
 have x0 : W.cell? ⟨X, 0, none⟩ = some (.slice sa NS sc) := by rw [hNS]; exact blk_cell hTab.cell 0
 have h48 : lookB S.length 48 u = true := look_mono (Nat.le_refl _) (by decide) hlk
 have WD := Lib.hid (fun (V : World) (hV : KB F0 W V) => lywords_any S hg.inR hg.len (fun i => Nat.le_trans (hg.len8 i) (by omega)) (fun n t hf hi => hg.w16 n t hf hi) 49 sa sc 34 u ua uc V (hg.fin u) (look_inT h48) (hS.kbF (hT1.kb.trans hV)))
 have hw16 := hg.w16 34 u (hg.fin u) (look_inT h48)
 have HXA : Hid (bxAt S L (p, u) = ((p : Int), (clsW (wF S 34 u)).1, (idxF L (keyB u)).getD (-1))) := Lib.hid rfl
 obtain ⟨wf, hwf⟩ : ∃ x, x = wF S 34 u := ⟨_, rfl⟩
 have CL := Lib.hid (fun (V : World) => lyClass_any (wf : Nat) V)
 obtain ⟨cl, hcl⟩ : ∃ x, x = (clsW (wf : Nat)).1 := ⟨_, rfl⟩
 obtain ⟨ce, hce⟩ : ∃ x, x = (clsW (wf : Nat)).2 := ⟨_, rfl⟩
 rw [← hcl, ← hce] at CL
 rw [← hwf] at WD
 rw [← hwf, ← hcl] at HXA
 have SH := Lib.hid (fun (V : World) (hV : KB F0 W V) => lyshape_any _ _ _ _ _ _ _ _ _ V (hTab.kbF hV) u ua uc (look_mono hg.len (Nat.le_refl 48) h48) (ty_any48 (m := 49) (deep_look1 (n := 46) hlk) ((hu.kbF (hT1.kb.trans hV)).le (by decide))))
 obtain ⟨sh, hsh⟩ : ∃ x, x = (idxF L (keyB u)).getD (-1) := ⟨_, rfl⟩
 rw [← hsh] at SH HXA
 unfold tyV at WD SH ⊢
 rw [← hNS] at WD
 obtain ⟨ba, bc, hv, hbc, -⟩ := own_shape hT1.own
 obtain ⟨n, hn⟩ : ∃ n, n = (l.map (bxAt S L)).length := ⟨_, rfl⟩
 have hnb : n ≤ 200 := by rw [hn, List.length_map]; exact hL
 rw [← hn] at hv
 have b1 : W.cell? ⟨b, 1, none⟩ = some (.slice ba n bc) := by rw [← hv]; exact blk_cell hT1.cell 1
 have HI := Lib.hid (And.intro hT (And.intro kb (And.intro hT1 (And.intro hv hn))))
 have HW := Lib.hid hW
 generalize u.k = uk at *
 generalize u.m = um at *
 generalize u.r = ur at *
 generalize u.s = us at *
 clear hT hT1 hW kb hb hlk hu h48 hw16 hwf hcl hce hsh hv hn hS hg hbc hTab hNS
 go_enter Tryz.func47, Tryz.ntmps47
 go_upto_region 1 with fail
 rw [← HW.out]
 refine wp_region_rv 12 GK (kindW [(5, (fun v => v = .int .i64 (wf : Nat)), (fun _ _ => True)), (6, (fun v => v = .tuple #[.int .i64 cl, .int .i64 ce]), (fun _ _ => True))]) (by kernel_rfl) (by kernel_rfl) (kb_trans _) (kb_refl _) (kb_start _ _) (kindW_mono _ (by intro p hp; simp only [List.mem_cons, List.not_mem_nil, or_false] at hp; rcases hp with rfl | rfl <;> exact lasts_true)) ?_
 simp only [pT, pU, pV, pW]
 refine rv_det (by kernel_rfl) rfl (by intro w hG hH; have hc0 := kc hG (p0); go_simp; first | done | with_reducible rfl) ?_
 simp only [Act.put, pA, pZ, pS]
 iterate 2 (refine rv_det (by kernel_rfl) rfl (by intro w hG hH; go_simp; first | done | with_reducible rfl) ?_; simp only [Act.put, pA, pZ, pS])
 refine rv_det (by kernel_rfl) rfl (by intro w hG hH; have hc0 := kc hG (x0); go_simp; first | done | with_reducible rfl) ?_
 simp only [Act.put, pA, pZ, pS]
 refine rv_det (by kernel_rfl) rfl (by intro w hG hH; have hc0 := kc hG (c0); have hc1 := kc hG (c1); have hc2 := kc hG (c2); have hc3 := kc hG (c3); have hc4 := kc hG (c4); go_simp; first | done | with_reducible rfl) ?_
 simp only [Act.put, pA, pZ, pS]
 refine rv_rel (by kernel_rfl) rfl ⟨_, rfl⟩ (by
  intro w hG hH
  refine opVal_call (by go_simp; first | done | exact ⟨⟨rfl, rfl⟩, rfl⟩) ?_
  refine (WD.out _ hG).mono ?_
  rintro e w' ⟨rfl, hq⟩
  exact ⟨_, rfl, rfl, by first | (obtain ⟨nq, rfl⟩ := hq; exact (KB.refl _ _).drewN _) | (subst hq; exact KB.refl _ _) | exact hq, trivial⟩) ?_
 rintro v rfl
 simp only [Act.put, pA, pZ, pS]
 refine rv_rel (by kernel_rfl) rfl ⟨_, rfl⟩ (by
  intro w hG hH
  refine opVal_call (by go_simp; first | done | exact ⟨⟨rfl, rfl⟩, rfl⟩) ?_
  refine (CL.out _).mono ?_
  rintro e w' ⟨rfl, hq⟩
  exact ⟨_, rfl, rfl, by first | (obtain ⟨nq, rfl⟩ := hq; exact (KB.refl _ _).drewN _) | (subst hq; exact KB.refl _ _) | exact hq, trivial⟩) ?_
 rintro v rfl
 simp only [Act.put, pA, pZ, pS]
 iterate 5 (refine rv_det (by kernel_rfl) rfl (by intro w hG hH; go_simp; first | done | with_reducible rfl) ?_; simp only [Act.put, pA, pZ, pS])
 refine rv_nil (fun w hG hH => ?_)
 obtain ⟨w1, rfl⟩ : ∃ x, x = w := ⟨_, rfl⟩
 have H1 := Lib.hid hG
 have p1 := hG.cell (p := ⟨B4, 0, none⟩) (fun x => x) p0
 have b2 := hG.cell (p := ⟨b, 1, none⟩) (fun x => x) b1
 obtain ⟨Bt, hBt⟩ : ∃ n, n = w0.heap.size := ⟨_, rfl⟩
 rw [← hBt] at c0 c1 c2 c3 c4 ⊢
 have d0 := hG.cell (p := ⟨Bt, 0, none⟩) (fun x => x) c0
 have d1 := hG.cell (p := ⟨Bt, 1, none⟩) (fun x => x) c1
 have d2 := hG.cell (p := ⟨Bt, 2, none⟩) (fun x => x) c2
 have d3 := hG.cell (p := ⟨Bt, 3, none⟩) (fun x => x) c3
 have d4 := hG.cell (p := ⟨Bt, 4, none⟩) (fun x => x) c4
 clear hG hH c0 c1 c2 c3 c4 p0 b1 x0 hBt
 go_upto_region 2 with fail
 refine wp_region_rv 9 GK (kindW [(6, (fun v => v = .int .i64 sh), (fun _ _ => True)), (8, RowN w1.heap.size 1, RowNAt w1.heap.size 1 #[.int .i64 (p : Nat), .int .i64 cl, .int .i64 sh] 61)]) (by kernel_rfl) (by kernel_rfl) (kb_trans _) (kb_refl _) (kb_start _ _) (kindW_mono _ (by intro p hp; simp only [List.mem_cons, List.not_mem_nil, or_false] at hp; rcases hp with rfl | rfl; exact lasts_true; exact lasts_rowN _ _ _ _)) ?_
 simp only [pT, pU, pV, pW]
 refine rv_det (by kernel_rfl) rfl (by intro w hG hH; go_simp; first | done | with_reducible rfl) ?_
 simp only [Act.put, pA, pZ, pS]
 refine rv_det (by kernel_rfl) rfl (by intro w hG hH; have hc0 := kc hG (b2); go_simp; first | done | with_reducible rfl) ?_
 simp only [Act.put, pA, pZ, pS]
 iterate 2 (refine rv_det (by kernel_rfl) rfl (by intro w hG hH; go_simp; first | done | with_reducible rfl) ?_; simp only [Act.put, pA, pZ, pS])
 refine rv_det (by kernel_rfl) rfl (by intro w hG hH; have hc0 := kc hG (p1); go_simp; first | done | with_reducible rfl) ?_
 simp only [Act.put, pA, pZ, pS]
 refine rv_det (by kernel_rfl) rfl (by intro w hG hH; have hc0 := kc hG (d0); have hc1 := kc hG (d1); have hc2 := kc hG (d2); have hc3 := kc hG (d3); have hc4 := kc hG (d4); go_simp; first | done | with_reducible rfl) ?_
 simp only [Act.put, pA, pZ, pS]
 refine rv_rel (by kernel_rfl) rfl ⟨_, rfl⟩ (by
  intro w hG hH
  refine opVal_call (by go_simp; first | done | exact ⟨⟨rfl, rfl⟩, rfl⟩) ?_
  refine (SH.out _ (H1.out.trans hG)).mono ?_
  rintro e w' ⟨rfl, hq⟩
  exact ⟨_, rfl, rfl, by first | (obtain ⟨nq, rfl⟩ := hq; exact (KB.refl _ _).drewN _) | (subst hq; exact KB.refl _ _) | exact hq, trivial⟩) ?_
 rintro v rfl
 simp only [Act.put, pA, pZ, pS]
 refine rv_det (by kernel_rfl) rfl (by intro w hG hH; go_simp; first | done | with_reducible rfl) ?_
 simp only [Act.put, pA, pZ, pS]
 refine rv_rel (by kernel_rfl) rfl (rowN_ex _ _) (fun w hG hH => opVal_rowN hG (by go_simp; first | done | rfl)) ?_
 rintro v ⟨nb, rfl, hnb⟩
 simp only [Act.put, pA, pZ, pS]
 refine rv_nil (fun w hG hH => ?_)
 obtain ⟨nb', e1, e2, e3⟩ := hH _ (List.mem_cons_self ..)
 cases e1
 obtain ⟨w2, rfl⟩ : ∃ x, x = w := ⟨_, rfl⟩
 have H2 := Lib.hid (And.intro (H1.out.trans hG) e3)
 clear hH hG e2 e3 hnb b2 p1 d0 d1 d2 d3 d4
 go_wp2_with (at_builtin; refine Stopped.out ?_)
 refine ⟨?_⟩
 have hown : w2.ownsRow w00.heap.size 61 3 (.slice ba n bc) n (bxCs (l.map (bxAt S L))) := by
  have h := own_kb HI.out.2.2.1.own H2.out.1 (fun _ _ x => x)
  rw [HI.out.2.2.2.1, ← HI.out.2.2.2.2] at h
  exact h
 refine list_app3 rfl (.tmp 19) (.tmp 26) rfl w00.heap.size (.slice ba n bc) n (bxCs (l.map (bxAt S L))) rfl hown nb 1 [.int .i64 (p : Nat), .int .i64 cl, .int .i64 sh] rfl rfl H2.out.2 (by intro u hu; simp only [List.mem_cons, List.not_mem_nil, or_false] at hu; rcases hu with rfl | rfl | rfl <;> rfl) (by omega) (by have h1 := HI.out.1.kb.size; have h2 := HI.out.2.1.size; have h3 := H2.out.1.size; omega) ?_
 intro g cap w3 r3 k3 a3
 have hcb := H2.out.1.heap (fun x => x) HI.out.2.2.1.cell
 have hne : ∀ k, (Value.slice ba n bc).ownBlock = some k → k ≠ b := fun k hk e => by
  obtain ⟨c, h3, -⟩ := own_block hown hk
  exact obj_ne h3 hcb (by decide) e
 have b3 := k3.heap (b := b) (fun e => hne _ e rfl) hcb
 have y1 : w3.cell? ⟨b, 1, none⟩ = some (.slice ba n bc) := by rw [← HI.out.2.2.2.1]; exact blk_cell b3 1
 have f1 := blk_frozen b3 1
 have H3 := Lib.hid (And.intro r3 (And.intro k3 (And.intro a3 (And.intro b3 (And.intro hown hne)))))
 clear r3 k3 a3 b3 hcb hown hne
 go_wp2_with fail
 go_end0
 obtain ⟨r3, k3, a3, b3, hown, hne⟩ := H3.out
 obtain ⟨hT, kb, hT1, hv, hn⟩ := HI.out
 have k4 := kb_set w3 b 1 (.slice (some ⟨g, 0, none⟩) (n + 1) cap)
 have kF : KB F0 w0 w2 := kb.trans H2.out.1
 have hgb : g ≠ b := fun e => by
  obtain ⟨c, h3, -⟩ := own_block r3 (g := g) rfl
  exact obj_ne h3 b3 (by decide) e
 have kall : KB (fun k => k = b ∨ (Value.slice ba n bc).ownBlock = some k) w0 (w3.setCell ⟨b, 1, none⟩ (.slice (some ⟨g, 0, none⟩) (n + 1) cap)) := ((kF.mono (fun _ _ x => x.elim)).trans (k3.mono (fun k _ e => Or.inr e))).trans (k4.mono (fun k _ e => Or.inl e))
 have hSx : ∀ k, (k = b ∨ (Value.slice ba n bc).ownBlock = some k) → w00.heap.size ≤ k := fun k hk => by
  rcases hk with rfl | hk
  ·exact hT.lo
  ·exact (hown.lt k hk).1
 have hnot : ∀ {k : Nat} {o : Obj}, w0.heap[k]? = some o → (∀ cs, o ≠ .cells cs 32 (0, 0)) → (∀ cs, o ≠ .cells cs 61 (0, 0)) → ¬ (k = b ∨ (Value.slice ba n bc).ownBlock = some k) := fun hk h1 h2 h => by
  refine sxP_not hT hk h1 h2 ?_
  rcases h with h | h
  ·exact Or.inl h
  ·exact Or.inr ⟨_, _, hT.cell, by rw [hv]; exact h⟩
 refine ⟨rfl, ⟨.slice (some ⟨g, 0, none⟩) (n + 1) cap, hT.kb.oldS kall (fun k hk e => by have := hSx k e; omega), hT.lo, setCell_blk (i := 1) b3 _, ?_, kall.heap (hnot hT.ptr (fun cs e => by simp only [Obj.cells.injEq] at e; exact absurd e.2.1 (by decide)) (fun cs e => by simp only [Obj.cells.injEq] at e; exact absurd e.2.1 (by decide))) hT.ptr, ?_⟩, kall.mono (fun k _ e => ?_), fun k hk => ?_⟩
 ·rw [List.map_append, List.map_singleton, List.length_append, List.length_singleton, bxCs_snoc, ← hn, HXA.out]
  exact own_kb r3 k4 (fun g' e1 e2 => by simp only [Value.ownBlock, Option.some.injEq] at e1; exact hgb (e1.trans e2))
 ·obtain ⟨tv, tus, hTab⟩ := hT.tab
  obtain ⟨D, ⟨es, clock, hm, -⟩, -⟩ := hTab.map
  refine ⟨tv, tus, hTab.kbS kall (fun k e => ⟨hSx k e, fun e2 => ?_, fun e2 => ?_, fun e2 => ?_⟩)⟩
  ·subst e2
   exact hnot hTab.cell (fun cs e => by simp only [Obj.cells.injEq] at e; exact absurd e.2.1 (by decide)) (fun cs e => by simp only [Obj.cells.injEq] at e; exact absurd e.2.1 (by decide)) e
  ·subst e2
   exact hnot hm (fun cs e => by cases e) (fun cs e => by cases e) e
  ·obtain ⟨c, h3, -⟩ := own_block hTab.list.row e2
   exact hnot h3 (fun cs e => by simp only [Obj.cells.injEq] at e; exact absurd e.2.1 (by decide)) (fun cs e => by simp only [Obj.cells.injEq] at e; exact absurd e.2.1 (by decide)) e
 ·rcases e with rfl | e
  ·exact Or.inl rfl
  ·exact Or.inr ⟨_, _, hT.cell, by rw [hv]; exact e⟩
 ·rcases hk with rfl | ⟨c0, u, e1, e2⟩
  ·exact Or.inl (Or.inl rfl)
  ·rw [setCell_blk (i := 1) b3] at e1
   simp only [List.setIfInBounds_toArray, List.set_cons_zero, List.set_cons_succ, Option.some.injEq, Obj.cells.injEq, Array.mk.injEq, List.cons.injEq, and_true] at e1
   obtain ⟨rfl, rfl⟩ := e1
   simp only [Value.ownBlock, Option.some.injEq] at e2
   subst e2
   rcases a3 with h | h
   ·exact Or.inl (Or.inr ⟨_, _, hT.cell, by rw [hv]; exact h⟩)
   ·have := kF.size
    exact Or.inr (by omega)
end Go.Proofs.YtaeppaaolkcbbaaGreatDoor

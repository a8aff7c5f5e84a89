/- graph.point's closures. Lists of types in memory of their own. types.Fields of a struct's type on a way. graph.point: what it asks of a point; points and graphs in memory. -/
import Derived.Test.YtaeppaaolkcbbaaGreatDoorMg26
import Derived.Test.YtaeppaaolkcbbaaGreatDoorMg20
import Derived.Test.YtaeppaaolkcbbaaGreatDoorMg11
import Derived.Test.YtaeppaaolkcbbaaGreatDoorMg02
import Derived.Deep.AppendLies
import Derived.Test.YtaeppaaolkcbbaaGreatDoorMg09
import Derived.Test.YtaeppaaolkcbbaaGreatDoorMg22
namespace Go.Proofs.YtaeppaaolkcbbaaGreatDoor
open Go.RowKit

set_option maxRecDepth 100000 in
set_option maxHeartbeats 16000000 in
theorem grPoint1_any (q n : Int) (b : Nat) (w : World) (h : w.cell? ⟨b, 0, none⟩ = some (.int .i64 n)) :
  Calls Tryz.prog 134 #[.int .i64 q, .pointer (some ⟨b, 0, none⟩)] w fun e w' => e = .returned (.bool (decide (0 ≤ q) && decide (q < n))) ∧ w' = w := by
 obtain ⟨w0, rfl⟩ : ∃ w0, w0 = w := ⟨_, rfl⟩
 by_cases hx : 0 ≤ q
 ·have d1 : decide (0 ≤ q) = true := decide_eq_true hx
  go_enter Tryz.func134, Tryz.ntmps134
  go_wp2_with fail
  go_ret
  exact ⟨ret_eq (by simp [hx]), rfl⟩
 ·have d1 : decide (0 ≤ q) = false := decide_eq_false hx
  go_enter Tryz.func134, Tryz.ntmps134
  go_wp2_with fail
  go_ret
  exact ⟨ret_eq (by simp [hx]), rfl⟩
set_option maxRecDepth 100000 in
set_option maxHeartbeats 16000000 in
theorem grPoint2_any (t : Ty) (ta : Option Addr) (tc : Nat) (k : Int) (w : World) :
  Calls Tryz.prog 137 #[tyV t ta tc, .int .u8 k] w fun e w' => e = .returned (.bool (decide (t.k = k))) ∧ KB F0 w w' := by
 obtain ⟨w0, rfl⟩ : ∃ w0, w0 = w := ⟨_, rfl⟩
 obtain ⟨W, hW⟩ : ∃ W, W = w0.alloc (.cells #[.int .u8 t.k, .bool t.m, .int .i64 t.r, .int .i64 t.s, .slice ta t.of.length tc] 26) := ⟨_, rfl⟩
 obtain ⟨kb, hb⟩ := boxTy w0 t ta tc
 rw [← hW] at kb hb
 obtain ⟨c0, c1, c2, c3, c4⟩ := TyCells.of_block hb
 simp only [Nat.zero_add] at c0 c1 c2 c3 c4
 have HW := Lib.hid hW
 have HK := Lib.hid kb
 have hE : (t.k == k) = decide (t.k = k) := Bool.eq_iff_iff.2 (by simp)
 unfold tyV
 clear kb hb hW c1 c2 c3 c4
 go_enter Tryz.func137, Tryz.ntmps137
 go_upto_region 1 with fail
 rw [← HW.out]
 go_wp2_with fail
 go_ret
 exact ⟨ret_eq (by first | rfl | simp), HK.out⟩
theorem OnWay.in_at {S : List (List Ty)} {wb w : World} {t : Ty} {ta : Option Addr} {tc : Nat} (hg : GoodS S) (hk : KB F0 wb w) (h : (ta = none ∧ tc = 0 ∧ t.of = []) ∨ OnWay S wb t ta tc) : TyAt 49 w t ta tc := by
 rcases h with ⟨rfl, rfl, h⟩ | h
 ·exact ⟨by rw [h]; exact Nat.le_refl _, fun i hi => by rw [h] at hi; exact absurd hi (by simp)⟩
 ·exact ((h.look hg).2 49).kbF hk
abbrev askC (sa : Option Addr) (sn sc : Nat) (fa : Option Addr) (fn fc : Nat) (mn : Int) (nm : ByteArray) (lv : Int) (oa : Option Addr) (on oc : Nat) (par : Int) (la : Option Addr) (ln lc : Nat) (na : Option Addr) (nn nc : Nat) (ga : Option Addr) (gn gc : Nat) : Array Value :=
 #[.slice sa sn sc, .slice fa fn fc, .int .i64 mn, .string nm, .int .i64 lv, .slice oa on oc, .int .i64 par, .slice la ln lc, .slice na nn nc, .slice ga gn gc]
def OpdsAt (w : World) (a : Option Addr) (l : List Opd) : Prop := ∀ k (h : k < l.length), ∃ b off pa pc, a = some ⟨b, off, none⟩ ∧ w.cell? ⟨b, off + k * 4, none⟩ = some (.int .u8 l[k].k) ∧ w.cell? ⟨b, off + k * 4 + 1, none⟩ = some (.int .i64 l[k].n) ∧ w.cell? ⟨b, off + k * 4 + 2, none⟩ = some (.int .i64 l[k].p.loc) ∧ w.cell? ⟨b, off + k * 4 + 3, none⟩ = some (.slice pa l[k].p.path.length pc) ∧ PlAt w l[k].p pa pc
theorem OpdsAt.kbF {w w' : World} {a : Option Addr} {l : List Opd} (h : OpdsAt w a l) (hk : KB F0 w w') : OpdsAt w' a l := fun k hl => by
 obtain ⟨b, off, pa, pc, e, h0, h1, h2, h3, h4⟩ := h k hl
 exact ⟨b, off, pa, pc, e, hk.cell (p := ⟨b, off + k * 4, none⟩) (fun x => x) h0, hk.cell (p := ⟨b, off + k * 4 + 1, none⟩) (fun x => x) h1, hk.cell (p := ⟨b, off + k * 4 + 2, none⟩) (fun x => x) h2, hk.cell (p := ⟨b, off + k * 4 + 3, none⟩) (fun x => x) h3, h4.kbF hk⟩
def argsB (S : List (List Ty)) (L : List Ty) (l : List Opd) (m : List Ty) : Bool := decide (l.length = m.length) && (l.zip m).all fun x => (opF S L x.1).2 && alkB (opF S L x.1).1 x.2

def tyCs (t : Ty) (a : Option Addr) (c : Nat) : List Value := [.int .u8 t.k, .bool t.m, .int .i64 t.r, .int .i64 t.s, .slice a t.of.length c]
def TySep (P : Nat → Prop) : Nat → World → Ty → Option Addr → Nat → Prop
 | 0, _, t, a, c => t.of.length = 0 ∧ a = none ∧ c = 0
 | n + 1, w, t, a, c => (t.of.length = 0 ∧ a = none ∧ c = 0) ∨ (t.of.length = 1 ∧ ∃ g a' c', a = some ⟨g, 0, none⟩ ∧ c = 1 ∧ P g ∧ w.heap[g]? = some (tyObj (in0 t) a' c') ∧ TySep P n w (in0 t) a' c')
theorem TySep.mono {P Q : Nat → Prop} (hPQ : ∀ g, P g → Q g) {w : World} : ∀ {n : Nat} {t : Ty} {a : Option Addr} {c : Nat}, TySep P n w t a c → TySep Q n w t a c := by
 intro n
 induction n with
 | zero => intro t a c h; exact h
 | succ n ih =>
  intro t a c h
  rcases h with h | ⟨h1, g, a', c', h2, h3, h4, h5, h6⟩
  ·exact Or.inl h
  ·exact Or.inr ⟨h1, g, a', c', h2, h3, hPQ g h4, h5, ih h6⟩
theorem TySep.kb {P S : Nat → Prop} {w w' : World} (hk : KB S w w') (hS : ∀ g, P g → ¬ S g) : ∀ {n : Nat} {t : Ty} {a : Option Addr} {c : Nat}, TySep P n w t a c → TySep P n w' t a c := by
 intro n
 induction n with
 | zero => intro t a c h; exact h
 | succ n ih =>
  intro t a c h
  rcases h with h | ⟨h1, g, a', c', h2, h3, h4, h5, h6⟩
  ·exact Or.inl h
  ·exact Or.inr ⟨h1, g, a', c', h2, h3, h4, hk.heap (hS g h4) h5, ih h6⟩
theorem TySep.at {P : Nat → Prop} {w : World} : ∀ {n : Nat} {t : Ty} {a : Option Addr} {c : Nat}, TySep P n w t a c → TyAt (n + 1) w t a c := by
 intro n
 induction n with
 | zero =>
  intro t a c h
  exact ⟨by have := h.1; omega, fun i hi => by have := h.1; omega⟩
 | succ n ih =>
  intro t a c h
  rcases h with h | ⟨h1, g, a', c', h2, h3, h4, h5, h6⟩
  ·exact ⟨by have := h.1; omega, fun i hi => by have := h.1; omega⟩
  ·refine ⟨by omega, fun i hi => ?_⟩
   obtain rfl : i = 0 := by omega
   have hc := TyCells.of_block h5
   refine ⟨g, 0, a', c', h2, ?_, ih h6⟩
   rw [Nat.zero_mul, Nat.add_zero]
   exact hc
structure OwnTys (w : World) (B n : Nat) (v : Value) (l : List Ty) (us : List Value) : Prop where
 row : w.ownsRow B 26 5 v l.length us
 tys : ∀ k (h : k < l.length), ∃ ta tc, (∀ j, j < 5 → us[k * 5 + j]? = (tyCs l[k] ta tc)[j]?) ∧ TySep (fun g => B ≤ g ∧ g < w.heap.size ∧ v.ownBlock ≠ some g) n w l[k] ta tc
theorem OwnTys.kb {w w' : World} {B n : Nat} {v : Value} {l : List Ty} {us : List Value} (h : OwnTys w B n v l us) {S : Nat → Prop} (hk : KB S w w') (hS : ∀ g, B ≤ g → g < w.heap.size → ¬ S g) : OwnTys w' B n v l us :=
 ⟨own_kb h.row hk (fun g e => hS g (h.row.lt g e).1 (h.row.lt g e).2), fun k hk' => by
  obtain ⟨ta, tc, h1, h2⟩ := h.tys k hk'
  exact ⟨ta, tc, h1, (h2.kb hk (fun g hg => hS g hg.1 hg.2.1)).mono (fun g hg => ⟨hg.1, Nat.lt_of_lt_of_le hg.2.1 hk.size, hg.2.2⟩)⟩⟩
theorem OwnTys.kbF {w w' : World} {B n : Nat} {v : Value} {l : List Ty} {us : List Value} (h : OwnTys w B n v l us) (hk : KB F0 w w') : OwnTys w' B n v l us := h.kb hk (fun _ _ _ x => x)
theorem KB.ofGrownBy {w w' : World} {row : Option Nat} (hg : w.grownBy w' row) : KB (fun k => row = some k) w w' := (KB.refl _ w).grown hg (fun k hk _ => hk)
theorem OwnTys.at {w : World} {B n : Nat} {v : Value} {l : List Ty} {us : List Value} (h : OwnTys w B n v l us) : ∃ a c, v = .slice a l.length c ∧ l.length ≤ c ∧ TysAt (n + 1) w a l := by
 rcases h.row.2 with ⟨h1, h2⟩ | ⟨g, cap, cur, h1, h2, h3, h4, h5, h6, h7⟩
 ·exact ⟨none, 0, by rw [h1, h2], by omega, fun i hi => by omega⟩
 ·refine ⟨_, cap, h1, h4, fun i hi => ?_⟩
  obtain ⟨ta, tc, k1, k2⟩ := h.tys i hi
  have e2 : l.getD i ty0 = l[i] := by rw [List.getD_eq_getElem?_getD, List.getElem?_eq_getElem hi]; rfl
  rw [e2]
  have hc : ∀ j, j < 5 → w.cell? ⟨g, 0 + i * 5 + j, none⟩ = (tyCs l[i] ta tc)[j]? := fun j hj => by
   rw [blk_cell h3, ← k1 j hj, ← h7, List.getElem?_take, if_pos (by omega), Nat.zero_add]
   simp
  exact ⟨g, 0, ta, tc, rfl, ⟨hc 0 (by omega), hc 1 (by omega), hc 2 (by omega), hc 3 (by omega), hc 4 (by omega)⟩, k2.at⟩
theorem Tryz.infoTy : (Tryz.prog.info? 26).map (fun i => (i.zero, i.size, i.bytes)) = some (some (.agg #[.int .u8 0, .bool false, .int .i64 0, .int .i64 0, .slice none 0 0]), 5, 48) := by kernel_rfl
theorem Tryz.underlying24' : Tryz.prog.underlying 24 = some (.slice 26) := by kernel_rfl

theorem OnWay.own {S : List (List Ty)} {w : World} {t : Ty} {ta : Option Addr} {tc : Nat} (h : OnWay S w t ta tc) : ∀ m, 48 ≤ m → Calls Tryz.prog 112 #[tyV t ta tc] w (OwnEnd m t w) := by
 intro m hm
 obtain ⟨d, hd, hl, ht⟩ := h
 have h1 := look_mono (Nat.le_refl _) (show d ≤ m by omega) hl
 exact own_any m t ta tc w (deep_look h1) (deep_at (deep_look hl) ht _)

structure Gr where
 name : ByteArray
 lives : Int
 outs : List (Int × Int)
 params : Int
 locals : List Ty
 names : List ByteArray
 points : List Pt
def spG (S : List (List Ty)) (L : List Ty) (p : Pl) : Ty × Int × Bool := match spotF S L p with
 | none => (ty0, 0, false)
 | some x => (x.1, mostI x.2, decide (p.path.length ≤ 8))
def TyIn (S : List (List Ty)) (wb : World) (t : Ty) (ta : Option Addr) (tc : Nat) : Prop := (ta = none ∧ tc = 0 ∧ t.of = []) ∨ OnWay S wb t ta tc
theorem spEnd_G {S : List (List Ty)} {L : List Ty} {p : Pl} {wb w w' : World} {e : Ending} (h : SpEnd S wb w (decide (p.path.length ≤ 8)) (spotF S L p) e w') :
  KB F0 w w' ∧ ∃ ta tc, e = .returned (spV (spG S L p).1 ta tc (spG S L p).2.1 (spG S L p).2.2) ∧ TyIn S wb (spG S L p).1 ta tc ∧ ((spG S L p).2.2 = true → OnWay S wb (spG S L p).1 ta tc) := by
 obtain ⟨hk, h⟩ := h
 refine ⟨hk, ?_⟩
 unfold spG
 revert h
 cases spotF S L p with
 | none => intro h; exact ⟨none, 0, h, Or.inl ⟨rfl, rfl, rfl⟩, fun h => by cases h⟩
 | some x => intro h; obtain ⟨ta, tc, h1, h2⟩ := h; exact ⟨ta, tc, h1, Or.inr h2, fun _ => h2⟩
structure PtA where
 ta : Option Addr
 tc : Nat
 aa : Option Addr
 ac : Nat
 ba : Option Addr
 bc : Nat
 ga : Option Addr
 gc : Nat
 fa : Option Addr
 fc : Nat
abbrev ptD (p : Pt) (d : PtA) : Array Value := ptC p d.ta d.tc d.aa d.ac d.ba d.bc d.ga d.gc d.fa d.fc
structure PtAt (w : World) (p : Pt) (d : PtA) : Prop where
 dst : PlAt w p.dst d.ta d.tc
 a : PlAt w p.a.p d.aa d.ac
 b : PlAt w p.b.p d.ba d.bc
 args : OpdsAt w d.ga p.args
 src : PlAt w p.src d.fa d.fc
 small : p.args.length ≤ 1000000
 sgn : p.sign.size ≤ maxLen
theorem PtAt.kbF {w w' : World} {p : Pt} {d : PtA} (h : PtAt w p d) (hk : KB F0 w w') : PtAt w' p d := ⟨h.dst.kbF hk, h.a.kbF hk, h.b.kbF hk, h.args.kbF hk, h.src.kbF hk, h.small, h.sgn⟩
def PtsAt (w : World) (a : Option Addr) (l : List Pt) : Prop := ∀ k (h : k < l.length), ∃ b off d, a = some ⟨b, off, none⟩ ∧ (∀ j, j < 21 → w.cell? ⟨b, off + k * 21 + j, none⟩ = (ptD l[k] d)[j]?) ∧ PtAt w l[k] d
structure GrA where
 oa : Option Addr
 oc : Nat
 la : Option Addr
 lc : Nat
 na : Option Addr
 nc : Nat
 pa : Option Addr
 pc : Nat
def grCs (g : Gr) (d : GrA) : List Value := [.string g.name, .int .i64 g.lives, .slice d.oa g.outs.length d.oc, .int .i64 g.params, .slice d.la g.locals.length d.lc, .slice d.na g.names.length d.nc, .slice d.pa g.points.length d.pc]
def OutsAt (w : World) (a : Option Addr) (l : List (Int × Int)) : Prop := ∀ k (h : k < l.length), ∃ b off, a = some ⟨b, off, none⟩ ∧ w.cell? ⟨b, off + k * 2, none⟩ = some (.int .i64 l[k].1) ∧ w.cell? ⟨b, off + k * 2 + 1, none⟩ = some (.int .i64 l[k].2)
structure GrAt (w : World) (g : Gr) (d : GrA) : Prop where
 outs : OutsAt w d.oa g.outs
 locals : TysAt 49 w d.la g.locals
 points : PtsAt w d.pa g.points
 lcap : g.locals.length ≤ d.lc
 osmall : g.outs.length ≤ 1000000
 lsmall : g.locals.length ≤ 1000000
 nsmall : g.names.length ≤ 1000000
 psmall : g.points.length ≤ 1000000
theorem PtsAt.kbF {w w' : World} {a : Option Addr} {l : List Pt} (h : PtsAt w a l) (hk : KB F0 w w') : PtsAt w' a l := fun k hl => by
 obtain ⟨b, off, d, e, h1, h2⟩ := h k hl
 refine ⟨b, off, d, e, fun j hj => ?_, h2.kbF hk⟩
 have h3 : ∃ v, (ptD l[k] d)[j]? = some v := ⟨_, Array.getElem?_eq_getElem (by show j < 21; exact hj)⟩
 obtain ⟨v, hv⟩ := h3
 have h4 := h1 j hj
 rw [hv] at h4 ⊢
 exact hk.cell (p := ⟨b, off + k * 21 + j, none⟩) (fun x => x) h4
theorem OutsAt.kbF {w w' : World} {a : Option Addr} {l : List (Int × Int)} (h : OutsAt w a l) (hk : KB F0 w w') : OutsAt w' a l := fun k hl => by
 obtain ⟨b, off, e, h1, h2⟩ := h k hl
 exact ⟨b, off, e, hk.cell (p := ⟨b, off + k * 2, none⟩) (fun x => x) h1, hk.cell (p := ⟨b, off + k * 2 + 1, none⟩) (fun x => x) h2⟩
theorem GrAt.kbF {w w' : World} {g : Gr} {d : GrA} (h : GrAt w g d) (hk : KB F0 w w') : GrAt w' g d := ⟨h.outs.kbF hk, h.locals.kbF hk, h.points.kbF hk, h.lcap, h.osmall, h.lsmall, h.nsmall, h.psmall⟩
def FnsAt (w : World) (a : Option Addr) (l : List Gr) : Prop := ∀ k (h : k < l.length), ∃ b off d, a = some ⟨b, off, none⟩ ∧ (∀ j, j < 7 → w.cell? ⟨b, off + k * 7 + j, none⟩ = (grCs l[k] d)[j]?) ∧ GrAt w l[k] d
theorem FnsAt.kbF {w w' : World} {a : Option Addr} {l : List Gr} (h : FnsAt w a l) (hk : KB F0 w w') : FnsAt w' a l := fun k hl => by
 obtain ⟨b, off, d, e, h1, h2⟩ := h k hl
 refine ⟨b, off, d, e, fun j hj => ?_, h2.kbF hk⟩
 obtain ⟨v, hv⟩ : ∃ v, (grCs l[k] d)[j]? = some v := ⟨_, List.getElem?_eq_getElem (show j < (grCs l[k] d).length from hj)⟩
 have h4 := h1 j hj
 rw [hv] at h4 ⊢
 exact hk.cell (p := ⟨b, off + k * 7 + j, none⟩) (fun x => x) h4
structure AskA where
 sa : Option Addr
 sc : Nat
 fa : Option Addr
 fc : Nat
 mn : Int
abbrev askD (S : List (List Ty)) (Fs : List Gr) (g : Gr) (u : AskA) (d : GrA) : Array Value :=
 askC u.sa S.length u.sc u.fa Fs.length u.fc u.mn g.name g.lives d.oa g.outs.length d.oc g.params d.la g.locals.length d.lc d.na g.names.length d.nc d.pa g.points.length d.pc
structure PtIn (S : List (List Ty)) (Fs : List Gr) (g : Gr) (u : AskA) (d : GrA) (p : Pt) (pd : PtA) (wb w : World) : Prop where
 hn : S.length ≤ 1000000
 hl : ∀ i, (fds S i).length ≤ 1000000
 hsc : S.length ≤ u.sc
 hM : AllT S g.locals
 hwb : KB F0 wb w
 hS : StsAt 49 wb u.sa S
 hG : GrAt wb g d
 hF : FnsAt wb u.fa Fs
 hfn : Fs.length ≤ 1000000
 hFh : ∀ f ∈ Fs, 0 ≤ f.params ∧ f.params < f.locals.length ∧ AllT S f.locals
 hp : PtAt w p pd
structure PtSt (w : World) (b n7 n8 n10 n12 : Nat) (A B : Array Value) (n : Int) (C7 C8 C10 C12 : Array Value) : Prop where
 A : w.heap[b]? = some (.cells A 175 (0, 0))
 B : w.heap[b + 1]? = some (.cells B 129 (0, 0))
 N : w.heap[b + 2]? = some (.cells #[.int .i64 n] 3 (0, 0))
 C7 : w.heap[n7]? = some (.cells C7 201 (0, 0))
 C8 : w.heap[n8]? = some (.cells C8 201 (0, 0))
 C10 : w.heap[n10]? = some (.cells C10 26 (0, 0))
 C12 : w.heap[n12]? = some (.cells C12 26 (0, 0))
theorem PtSt.kbF {w w' : World} {b n7 n8 n10 n12 : Nat} {A B : Array Value} {n : Int} {C7 C8 C10 C12 : Array Value} (h : PtSt w b n7 n8 n10 n12 A B n C7 C8 C10 C12) (hk : KB F0 w w') : PtSt w' b n7 n8 n10 n12 A B n C7 C8 C10 C12 :=
 ⟨hk.heap (fun x => x) h.A, hk.heap (fun x => x) h.B, hk.heap (fun x => x) h.N, hk.heap (fun x => x) h.C7, hk.heap (fun x => x) h.C8, hk.heap (fun x => x) h.C10, hk.heap (fun x => x) h.C12⟩
abbrev spC (t : Ty) (ta : Option Addr) (tc : Nat) (m : Int) (ok : Bool) : Array Value := #[.int .u8 t.k, .bool t.m, .int .i64 t.r, .int .i64 t.s, .slice ta t.of.length tc, .int .i64 m, .bool ok]
abbrev tyC (t : Ty) (ta : Option Addr) (tc : Nat) : Array Value := #[.int .u8 t.k, .bool t.m, .int .i64 t.r, .int .i64 t.s, .slice ta t.of.length tc]
def SpotV (x : Ty × Int × Bool) (v : Value) : Prop := ∃ ta tc, v = spV x.1 ta tc x.2.1 x.2.2
def SpotW (S : List (List Ty)) (wb : World) (x : Ty × Int × Bool) (v : Value) (_ : Nat × Nat) (_ : World) : Prop := ∀ ta tc, v = spV x.1 ta tc x.2.1 x.2.2 → TyIn S wb x.1 ta tc ∧ (x.2.2 = true → OnWay S wb x.1 ta tc)
theorem spotV_ex (x : Ty × Int × Bool) : ∃ v, SpotV x v := ⟨_, none, 0, rfl⟩
theorem spotW_kb {S : List (List Ty)} {wb : World} {x : Ty × Int × Bool} {G : World → World → Prop} : ∀ v g a b, G a b → SpotW S wb x v g a → SpotW S wb x v g b := fun _ _ _ _ _ h => h
theorem spotEnd_V {S : List (List Ty)} {L : List Ty} {p : Pl} {wb w w' : World} {e : Ending} (h : SpEnd S wb w (decide (p.path.length ≤ 8)) (spotF S L p) e w') :
  ∃ v, e = .returned v ∧ SpotV (spG S L p) v ∧ KB F0 w w' ∧ ∀ g, SpotW S wb (spG S L p) v g w' := by
 obtain ⟨hk, ta, tc, h1, h2⟩ := spEnd_G h
 refine ⟨_, h1, ⟨ta, tc, rfl⟩, hk, fun _ a c e => ?_⟩
 simp only [spV, Value.agg.injEq, Array.mk.injEq, List.cons.injEq, Value.slice.injEq, and_true, true_and] at e
 obtain ⟨rfl, rfl⟩ := e
 exact h2
theorem PtIn.dst {S : List (List Ty)} {Fs : List Gr} {g : Gr} {u : AskA} {d : GrA} {p : Pt} {pd : PtA} {wb w : World} (H : PtIn S Fs g u d p pd wb w) {x : Ty × Int × Bool} (hx : x = spG S g.locals p.dst) (V : World) (hV : KB F0 w V) :
  Calls Tryz.prog 135 #[.agg (askD S Fs g u d), .agg #[.int .i64 p.dst.loc, .slice pd.ta p.dst.path.length pd.tc]] V fun e w' => ∃ v, e = .returned v ∧ SpotV x v ∧ KB F0 V w' ∧ ∀ g, SpotW S wb x v g w' := by
 subst hx
 exact (grSpot_any S H.hn u.sa u.sc H.hsc g.locals H.hG.lsmall d.la d.lc H.hM p.dst pd.ta pd.tc u.fa Fs.length u.fc u.mn g.name g.lives d.oa g.outs.length d.oc g.params d.na g.names.length d.nc d.pa g.points.length d.pc wb V (H.hwb.trans hV) H.hS H.hG.locals (H.hp.dst.kbF hV)).mono fun e w' h => spotEnd_V h
theorem PtIn.src {S : List (List Ty)} {Fs : List Gr} {g : Gr} {u : AskA} {d : GrA} {p : Pt} {pd : PtA} {wb w : World} (H : PtIn S Fs g u d p pd wb w) {x : Ty × Int × Bool} (hx : x = spG S g.locals p.src) (V : World) (hV : KB F0 w V) :
  Calls Tryz.prog 135 #[.agg (askD S Fs g u d), .agg #[.int .i64 p.src.loc, .slice pd.fa p.src.path.length pd.fc]] V fun e w' => ∃ v, e = .returned v ∧ SpotV x v ∧ KB F0 V w' ∧ ∀ g, SpotW S wb x v g w' := by
 subst hx
 exact (grSpot_any S H.hn u.sa u.sc H.hsc g.locals H.hG.lsmall d.la d.lc H.hM p.src pd.fa pd.fc u.fa Fs.length u.fc u.mn g.name g.lives d.oa g.outs.length d.oc g.params d.na g.names.length d.nc d.pa g.points.length d.pc wb V (H.hwb.trans hV) H.hS H.hG.locals (H.hp.src.kbF hV)).mono fun e w' h => spotEnd_V h
theorem PtIn.opA {S : List (List Ty)} {Fs : List Gr} {g : Gr} {u : AskA} {d : GrA} {p : Pt} {pd : PtA} {wb w : World} (H : PtIn S Fs g u d p pd wb w) {t : Ty} {ok : Bool} (hx : (t, ok) = opF S g.locals p.a) (V : World) (hV : KB F0 w V) :
  Calls Tryz.prog 136 #[.agg (askD S Fs g u d), .agg #[.int .u8 p.a.k, .int .i64 p.a.n, .int .i64 p.a.p.loc, .slice pd.aa p.a.p.path.length pd.ac]] V fun e w' => ∃ ta tc, e = .returned (.tuple #[.agg (tyC t ta tc), .bool ok]) ∧ TyIn S wb t ta tc ∧ KB F0 V w' := by
 refine (grOperand_any S H.hn u.sa u.sc H.hsc g.locals H.hG.lsmall d.la d.lc H.hM p.a pd.aa pd.ac u.fa Fs.length u.fc u.mn g.name g.lives d.oa g.outs.length d.oc g.params d.na g.names.length d.nc d.pa g.points.length d.pc wb V (H.hwb.trans hV) H.hS H.hG.locals (H.hp.a.kbF hV)).mono ?_
 rintro e w' ⟨hk, ta, tc, h1, h2⟩
 rw [← hx] at h1 h2
 exact ⟨ta, tc, h1, h2, hk⟩
theorem PtIn.opB {S : List (List Ty)} {Fs : List Gr} {g : Gr} {u : AskA} {d : GrA} {p : Pt} {pd : PtA} {wb w : World} (H : PtIn S Fs g u d p pd wb w) {t : Ty} {ok : Bool} (hx : (t, ok) = opF S g.locals p.b) (V : World) (hV : KB F0 w V) :
  Calls Tryz.prog 136 #[.agg (askD S Fs g u d), .agg #[.int .u8 p.b.k, .int .i64 p.b.n, .int .i64 p.b.p.loc, .slice pd.ba p.b.p.path.length pd.bc]] V fun e w' => ∃ ta tc, e = .returned (.tuple #[.agg (tyC t ta tc), .bool ok]) ∧ TyIn S wb t ta tc ∧ KB F0 V w' := by
 refine (grOperand_any S H.hn u.sa u.sc H.hsc g.locals H.hG.lsmall d.la d.lc H.hM p.b pd.ba pd.bc u.fa Fs.length u.fc u.mn g.name g.lives d.oa g.outs.length d.oc g.params d.na g.names.length d.nc d.pa g.points.length d.pc wb V (H.hwb.trans hV) H.hS H.hG.locals (H.hp.b.kbF hV)).mono ?_
 rintro e w' ⟨hk, ta, tc, h1, h2⟩
 rw [← hx] at h1 h2
 exact ⟨ta, tc, h1, h2, hk⟩
def ptPre (n : Int) (p : Pt) : Bool := !decide (p.at_ < 0) && (if p.op = 14 then decide (p.next = 0) else decide (0 ≤ p.next) && decide (p.next < n))
def restB (p : Pt) (h : List Bool) : Bool := (restL p h).all id
def laidB (x : Ty × Int × Bool) : Bool := x.2.2 && decide (x.2.1 < 3)
theorem ptRow : (Tryz.prog.underlying 129).map (fun d => match d with | .struct _ | .array _ _ => true | _ => false) = some true := by kernel_rfl
theorem ptSz : (Tryz.prog.info? 129).map (·.size) = some 21 := by kernel_rfl
theorem exLoadPt {o : Oper} {a : Act} {w : World} (x : Operand) (ho : o.op = .load 129 x) (g : Nat) (hx : a.eval x = .pointer (some ⟨g, 0, none⟩)) (cs : Array Value) (hcs : cs.size = 21) (hg : w.heap[g]? = some (.cells cs 129 (0, 0))) :
  (execOp a.eval o).run Tryz.prog w = .ok (.value (.agg cs)) w := by
 have hr := ptRow
 cases hu : Tryz.prog.underlying 129 with
 | none => rw [hu] at hr; cases hr
 | some d =>
  rw [hu] at hr
  unfold execOp
  simp only [ho, hx, Instr.loadAt, Instr.sureAddr, Sem.run_bind, Sem.run_pure, Result.andThen_ok, run_loadVar_row w g 129 129 cs (0, 0) d hg hu (by cases d <;> first | rfl | cases hr) (by rw [ptSz, hcs])]
theorem loadPt {ops : Array Oper} {rest : List Oper} {o : Oper} {a : Act} {Q : Exit → Act → World → Prop} {w : World} (hgd : o.guard = none) (x : Operand) (ho : o.op = .load 129 x) (g : Nat) (hx : a.eval x = .pointer (some ⟨g, 0, none⟩)) (cs : Array Value) (hcs : cs.size = 21) (hg : w.heap[g]? = some (.cells cs 129 (0, 0)))
  (h : wpList Tryz.prog ops Q rest (a.put o.dst (.agg cs)) w) : wpList Tryz.prog ops Q (o :: rest) a w := by
 have hr := ptRow
 cases hu : Tryz.prog.underlying 129 with
 | none => rw [hu] at hr; cases hr
 | some d =>
  rw [hu] at hr
  exact wpList_load_row hgd 129 x ho g hx 129 cs (0, 0) d hg hu (by cases d <;> first | rfl | cases hr) (by rw [ptSz, hcs]) h
theorem laid_cases (ok : Bool) (m : Int) : (ok = true ∧ decide (m < 3) = true) ∨ (ok = true ∧ decide (m < 3) = false) ∨ ok = false := by
 cases ok <;> cases decide (m < 3) <;> simp
def armUse (p : Pt) (x : Ty × Int × Bool) (a : Ty × Bool) : Bool := restB p [true, true, false, false, false, false, false, false, false, false] && (laidB x && (a.2 && alkB a.1 x.1))
def signB (s : List UInt8) (x a b : Ty) : Bool :=
 if s = [43] ∨ s = [45] ∨ s = [42] ∨ s = [47] ∨ s = [37] then decide (x.k = 1) && (decide (a.k = 1) && decide (b.k = 1))
 else if s = [60] ∨ s = [60, 61] ∨ s = [62] ∨ s = [62, 61] then decide (x.k = 2) && (decide (a.k = 1) && decide (b.k = 1))
 else if s = [61, 61] ∨ s = [33, 61] then decide (x.k = 2) && ((decide (a.k = 1) && decide (b.k = 1)) || (decide (a.k = 2) && decide (b.k = 2)))
 else false
def armBinary (p : Pt) (x : Ty × Int × Bool) (a b : Ty × Bool) : Bool := restB p [true, true, true, false, true, false, false, false, false, false] && (laidB x && (a.2 && (b.2 && signB p.sign.toList x.1 a.1 b.1)))
def unK (s : List UInt8) : Int := if s = [45] then 1 else if s = [33] then 2 else 0
def armUnary (p : Pt) (x : Ty × Int × Bool) (a : Ty × Bool) : Bool := restB p [true, true, false, false, true, false, false, false, false, false] && (laidB x && (a.2 && (decide (unK p.sign.toList ≠ 0) && (decide (x.1.k = unK p.sign.toList) && decide (a.1.k = unK p.sign.toList)))))
def armBorrow (p : Pt) (x y : Ty × Int × Bool) : Bool := restB p [true, false, false, false, false, true, true, false, false, false] && (laidB x && (y.2.2 && (decide (x.1.k = 4) && ((x.1.m == p.mut_) && (alkB (in0 x.1) y.1 && !(p.mut_ && decide (y.2.1 = 3)))))))
def armBox (p : Pt) (x : Ty × Int × Bool) (a : Ty × Bool) : Bool := restB p [true, true, false, false, false, false, false, false, false, false] && (laidB x && (a.2 && (decide (x.1.k = 3) && alkB (in0 x.1) a.1)))
def armMake (S : List (List Ty)) (L : List Ty) (p : Pt) (x : Ty × Int × Bool) : Bool := restB p [true, false, false, true, false, false, false, false, true, false] && (laidB x && (decide (x.1.k = 5) && (decide (x.1.s = p.st) && argsB S L p.args (fds S x.1.s.toNat))))
def armCall (S : List (List Ty)) (L : List Ty) (Fs : List Gr) (p : Pt) (x : Ty × Int × Bool) : Bool := restB p [true, false, false, true, false, false, false, true, false, false] && (laidB x && (decide (0 ≤ p.fn) && (decide (p.fn < (Fs.length : Int)) &&
 match Fs[p.fn.toNat]? with
 | none => false
 | some f => alkB x.1 (f.locals.getD 0 ty0) && argsB S L p.args ((f.locals.drop 1).take f.params.toNat))))
def armRead (p : Pt) (x : Ty × Int × Bool) : Bool := restB p [true, false, false, false, false, false, false, false, false, false] && (laidB x && decide (x.1.k = 1))
def armPrint (p : Pt) (a : Ty × Bool) : Bool := restB p [false, true, false, false, false, false, false, false, false, false] && (a.2 && decide (a.1.k = 1))
def dropB (S : List (List Ty)) (t : Ty) : Bool := lookB S.length 48 t && drF S 34 t
def armDrop (S : List (List Ty)) (p : Pt) (y : Ty × Int × Bool) : Bool := restB p [false, false, false, false, false, true, false, false, false, false] && (y.2.2 && (dropB S y.1 && decide (y.2.1 < 2)))
def armDead (p : Pt) (y : Ty × Int × Bool) : Bool := restB p [false, false, false, false, false, true, false, false, false, false] && (y.2.2 && (decide (0 < p.src.loc) && decide (p.src.path.length = 0)))
def armBranch (n : Int) (p : Pt) (a : Ty × Bool) : Bool := restB p [false, true, false, false, false, false, false, false, false, true] && (a.2 && (decide (a.1.k = 2) && (decide (0 ≤ p.els) && decide (p.els < n))))
def armNo (p : Pt) : Bool := restB p [false, false, false, false, false, false, false, false, false, false]
end Go.Proofs.YtaeppaaolkcbbaaGreatDoor

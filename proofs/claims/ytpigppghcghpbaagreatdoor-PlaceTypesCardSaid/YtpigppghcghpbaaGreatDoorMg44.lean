/- loanwordlaw09.lent. loanwordlaw09.kept. Two places lent side by side. -/
import Derived.Test.YtpigppghcghpbaaGreatDoorMg41
import Derived.Test.YtpigppghcghpbaaGreatDoorRegNw
namespace Go.Proofs.YtpigppghcghpbaaGreatDoor
open Go.RowKit

set_option maxRecDepth 100000 in
set_option maxHeartbeats 8000000 in
theorem lent_any (p : Pl) (a : Option Addr) (c : Nat) (w : World) (h : PlAt w p a c) :
    Calls Tryz.prog 11 #[plV p a c] w fun e w' => ∃ g d, e = .returned (.agg #[.int .i64 p.loc, .slice (some ⟨g, 0, none⟩) p.path.length d]) ∧ p.path.length + 1 ≤ d ∧ OwnI w' w.heap.size (.slice (some ⟨g, 0, none⟩) (p.path.length + 1) d) (p.path ++ [77]) ∧ KB F0 w w' := by
  obtain ⟨w0, rfl⟩ : ∃ w0, w0 = w := ⟨_, rfl⟩
  have hsm := h.small
  have HI := Lib.hid (fun (W : World) (hk : KB F0 w0 W) => h.ints.kbF hk)
  obtain ⟨x, xs⟩ := p
  unfold plV
  simp only at HI hsm ⊢
  obtain ⟨N, hN⟩ : ∃ N, N = xs.length := ⟨_, rfl⟩
  rw [← hN] at hsm ⊢
  have HN := Lib.hid hN
  clear h hN
  obtain ⟨hk, hb1, hb2⟩ := new2 w0 #[.int .i64 x, .slice a N c] #[.int .i64 0, .slice none 0 0] 26 26
  obtain ⟨W, hW⟩ : ∃ W, W = ((w0.alloc (.cells #[.int .i64 x, .slice a N c] 26)).alloc (.cells #[.int .i64 0, .slice none 0 0] 26)) := ⟨_, rfl⟩
  rw [← hW] at hk hb1 hb2
  have x1 : W.cell? ⟨w0.heap.size, 1, none⟩ = some (.slice a N c) := blk_cell hb1 1
  have HB := Lib.hid (And.intro hk (And.intro hb1 hb2))
  have HS : Hid (w0.heap.size + 2 ≤ W.heap.size) := Lib.hid (heap_lt hb2)
  have HW := Lib.hid hW
  rw [hW] at x1
  clear hk hb1 hb2 hW
  go_enter Tryz.func11, Tryz.ntmps11
  go_wp2_with (at_builtin; refine Stopped.out ?_)
  refine ⟨?_⟩
  rw [← HW.out]
  clear x1
  refine wpList_append_steps W.heap.size rfl rfl rfl rfl (ownI_nil _ _) xs HN.out (HI.out _ HB.out.1) (by omega) (by simp) (Nat.le_refl _) ?_
  intro v1 w1 hown1 hgr1
  rw [List.nil_append] at hown1
  have k1 : KB F0 W w1 := KB.of_grown hgr1 (fun k hk => by cases hk)
  have H1 := Lib.hid (And.intro k1 hown1)
  obtain ⟨b1, d1, e1, -⟩ := hown1.at
  subst e1
  rw [← HN.out] at H1 ⊢
  clear hown1 hgr1 k1
  go_wp2_with (at_builtin; refine Stopped.out ?_)
  refine ⟨?_⟩
  have ka := (KB.refl F0 w1).alloc (.cells #[.int .i64 77] 56)
  have ho := H1.out.2.kbF ka
  unfold OwnI at ho
  rw [← HN.out] at ho
  refine app1 24 56 W.heap.size (.int .i64 77) Tryz.infoStep Tryz.underlying24 (by decide) ho rfl rfl rfl rfl (blk_cell (alloc_new _ _) 0) rfl (by unfold maxLen; omega) (by omega) (H1.out.1.trans ka).size ?_
  intro v2 w2 hown2 hgr2
  have k2 : KB F0 W w2 := (H1.out.1.trans ka).grown hgr2 (own_ge ho (Nat.le_refl _))
  have hown3 : OwnI w2 W.heap.size v2 (xs ++ [77]) := by
    unfold OwnI
    rw [List.length_append, ints_app, ← HN.out]
    exact hown2
  obtain ⟨la, ld, e2, hld, -, hla⟩ := hown3.at
  obtain ⟨g, go, e3, -⟩ := hla N (by rw [List.length_append, ← HN.out]; simp)
  subst e3
  obtain ⟨gg, dd, e4⟩ : ∃ gg dd, v2 = .slice (some ⟨gg, 0, none⟩) (N + 1) dd := by
    rcases hown2.2 with ⟨e5, e6⟩ | ⟨gg, dd, cur, e5, -⟩
    · omega
    · exact ⟨gg, dd, e5⟩
  rw [e4] at e2
  simp only [Value.slice.injEq, Option.some.injEq, Addr.mk.injEq, and_true] at e2
  obtain ⟨⟨rfl, rfl⟩, e7, rfl⟩ := e2
  subst e4
  rw [← e7] at hld
  have H2 := Lib.hid (And.intro k2 (And.intro hown3 hld))
  have hbx := k2.heap (fun x => x) HB.out.2.1
  have x0 : w2.cell? ⟨w0.heap.size, 0, none⟩ = some (.int .i64 x) := blk_cell hbx 0
  have x1 : w2.cell? ⟨w0.heap.size, 1, none⟩ = some (.slice a N c) := blk_cell hbx 1
  have i1 : (N : Int) ≤ (dd : Int) := by omega
  have i2 : N ≤ dd := by omega
  clear hown2 hgr2 k2 hown3 ho ka e7 hla hbx hld
  go_wp2_with fail
  refine wp_region_rv 8 GK (kindW []) (by kernel_rfl) (by kernel_rfl) (kb_trans _) (kb_refl _) (kb_start _ _) (kindW_mono _ (by intro p hp; cases hp)) ?_
  simp only [List.take_succ_cons, List.take_zero, List.drop_succ_cons, List.drop_zero]
  iterate 8 (refine rv_det (by kernel_rfl) rfl (by intro w hG hH; have hc0 := KB.cell hG (fun x => x) (x0); have hc1 := KB.cell hG (fun x => x) (x1); go_simp; first | done | with_reducible rfl) ?_; simp only [Act.put, List.setIfInBounds_toArray, List.set_cons_zero, List.set_cons_succ])
  refine rv_nil (fun w hG hH => ?_)
  have KX := Lib.hid (HB.out.1.trans (H2.out.1.trans hG))
  have hown4 := H2.out.2.1.kbF hG
  have hb2 := hG.heap (fun x => x) (H2.out.1.heap (fun x => x) HB.out.2.2)
  have y0 : w.cell? ⟨w0.heap.size + 1, 0, none⟩ = some (.int .i64 0) := blk_cell hb2 0
  have y1 : w.cell? ⟨w0.heap.size + 1, 1, none⟩ = some (.slice none 0 0) := blk_cell hb2 1
  have f0 := blk_frozen hb2 0
  have f1 := blk_frozen hb2 1
  have HV := Lib.hid (And.intro hown4 hb2)
  clear hG hH hown4 hb2 x0 x1
  go_wp2_with fail
  refine ret_pl (X := w0.heap.size + 1) (x := x) rfl rfl (setCell_blk (i := 1) (setCell_blk (i := 0) HV.out.2 (.int .i64 x)) (.slice (some ⟨gg, 0, none⟩) N dd)) rfl ⟨gg, dd, rfl, H2.out.2.2, ?_, kb_new (kb_new KX.out (Nat.le_succ _) 0 _) (Nat.le_succ _) 1 _⟩
  exact own_base (own_kb HV.out.1 ((kb_set w (w0.heap.size + 1) 0 (.int .i64 x)).trans (kb_set _ (w0.heap.size + 1) 1 (.slice (some ⟨gg, 0, none⟩) N dd))) (fun g1 e1 e2 => by
    have h1 := (HV.out.1.lt g1 e1).1
    have h2 := HS.out
    omega)) HB.out.1.size
end Go.Proofs.YtpigppghcghpbaaGreatDoor

namespace Go.Proofs.YtpigppghcghpbaaGreatDoor
open Go.RowKit

theorem lent_pl {w : World} {B g d : Nat} {p : Pl} (h : OwnI w B (.slice (some ⟨g, 0, none⟩) (p.path.length + 1) d) (p.path ++ [77])) (hs : p.path.length ≤ 100000) (hd : p.path.length + 1 ≤ d) :
    PlAt w p (some ⟨g, 0, none⟩) d ∧ w.cell? ⟨g, p.path.length, none⟩ = some (.int .i64 77) := by
  obtain ⟨a, c, e, -, -, hi⟩ := h.at
  simp only [Value.slice.injEq] at e
  obtain ⟨e1, -, -⟩ := e
  subst e1
  constructor
  · have h2 := hi.take p.path.length
    rw [List.take_left' rfl] at h2
    exact ⟨h2, by omega, hs⟩
  · obtain ⟨b, off, e, hc⟩ := hi p.path.length (by simp)
    simp only [Option.some.injEq, Addr.mk.injEq, and_true] at e
    obtain ⟨rfl, rfl⟩ := e
    rw [Nat.zero_add] at hc
    rw [hc]
    simp [List.getD_eq_getElem?_getD]
set_option maxRecDepth 100000 in
set_option maxHeartbeats 8000000 in
theorem kept_any (p : Pl) (a : Option Addr) (c B g d : Nat) (w : World) (h : PlAt w p a c) (ho : OwnI w B (.slice (some ⟨g, 0, none⟩) (p.path.length + 1) d) (p.path ++ [77])) (hd : p.path.length + 1 ≤ d) :
    Calls Tryz.prog 14 #[.agg #[.int .i64 p.loc, .slice (some ⟨g, 0, none⟩) p.path.length d], plV p a c] w fun e w' => e = .returned (.bool true) ∧ KB F0 w w' := by
  obtain ⟨w0, rfl⟩ : ∃ w0, w0 = w := ⟨_, rfl⟩
  have hsm := h.small
  obtain ⟨hpl, h77⟩ := lent_pl ho hsm hd
  have SM := Lib.hid (fun (V : World) (hk : KB F0 w0 V) => rsame_any p p (some ⟨g, 0, none⟩) a d c V (hpl.kbF hk) (h.kbF hk))
  rw [show decide (ordP p p = 0) = true from decide_eq_true (ordP_zero.2 ⟨rfl, rfl⟩)] at SM
  unfold plV at SM ⊢
  obtain ⟨N, hN⟩ : ∃ N, N = p.path.length := ⟨_, rfl⟩
  generalize p.loc = x at SM ⊢
  rw [← hN] at SM hsm h77 hd ⊢
  clear h ho hpl hN
  obtain ⟨M, hM⟩ : ∃ M, M = N + 1 := ⟨_, rfl⟩
  have hw1 : IntKind.i64.wrap ((N : Int) + 1) = (M : Int) := by rw [w64 (by omega) (by omega)]; omega
  have i1 : (M : Int) ≤ (d : Int) := by omega
  have i2 : M ≤ d := by omega
  have i3 : (N : Int) < (M : Int) := by omega
  have i4 : N < M := by omega
  have hB := box2 w0 x x (.slice (some ⟨g, 0, none⟩) N d) (.slice a N c)
  obtain ⟨W2, hW2⟩ : ∃ W2, W2 = (w0.alloc (.cells #[.int .i64 x, .slice (some ⟨g, 0, none⟩) N d] 26)).alloc (.cells #[.int .i64 x, .slice a N c] 26) := ⟨_, rfl⟩
  rw [← hW2] at hB
  have x0 : W2.cell? ⟨w0.heap.size, 0, none⟩ = some (.int .i64 x) := blk_cell hB.g1 0
  have x1 : W2.cell? ⟨w0.heap.size, 1, none⟩ = some (.slice (some ⟨g, 0, none⟩) N d) := blk_cell hB.g1 1
  have y0 : W2.cell? ⟨w0.heap.size + 1, 0, none⟩ = some (.int .i64 x) := blk_cell hB.g2 0
  have y1 : W2.cell? ⟨w0.heap.size + 1, 1, none⟩ = some (.slice a N c) := blk_cell hB.g2 1
  have c7 : W2.cell? ⟨g, N, none⟩ = some (.int .i64 77) := hB.kb.cell (p := ⟨g, N, none⟩) (fun x => x) h77
  have KW := Lib.hid hB.kb
  have HW := Lib.hid hW2
  clear hB hW2 h77 hd hM
  go_enter Tryz.func14, Tryz.ntmps14
  go_wp2_with fail
  rw [← HW.out]
  refine wp_region_rv 19 GK (kindW [(2, (fun v => v = .bool true), (fun _ _ => True))]) (by kernel_rfl) (by kernel_rfl) (kb_trans _) (kb_refl _) (kb_start _ _) (kindW_mono _ (by intro p hp; simp only [List.mem_cons, List.not_mem_nil, or_false] at hp; rcases hp with rfl <;> exact lasts_true)) ?_
  simp only [List.take_succ_cons, List.take_zero, List.drop_succ_cons, List.drop_zero]
  iterate 2 (refine rv_det (by kernel_rfl) rfl (by intro w hG hH; have hc0 := KB.cell hG (fun x => x) (x0); have hc1 := KB.cell hG (fun x => x) (x1); have hc2 := KB.cell hG (fun x => x) (y0); have hc3 := KB.cell hG (fun x => x) (y1); go_simp; first | done | with_reducible rfl) ?_; simp only [Act.put, List.setIfInBounds_toArray, List.set_cons_zero, List.set_cons_succ])
  refine rv_rel (by kernel_rfl) rfl ⟨_, rfl⟩ (by
    intro w hG hH
    refine opVal_call (by go_simp; first | done | exact ⟨⟨rfl, rfl⟩, rfl⟩) ?_
    refine (SM.out _ (KW.out.trans hG)).mono ?_
    rintro e w' ⟨rfl, hq⟩
    exact ⟨_, rfl, rfl, by first | (obtain ⟨nq, rfl⟩ := hq; exact (KB.refl _ _).drewN _) | (subst hq; exact KB.refl _ _) | exact hq, trivial⟩) ?_
  rintro v rfl
  simp only [Act.put, List.setIfInBounds_toArray, List.set_cons_zero, List.set_cons_succ]
  iterate 16 (refine rv_det (by kernel_rfl) rfl (by intro w hG hH; have hc0 := KB.cell hG (fun x => x) (x1); have hc1 := KB.cell hG (fun x => x) (y1); have hc2 := KB.cell hG (fun x => x) (c7); go_simp; first | done | with_reducible rfl) ?_; simp only [Act.put, List.setIfInBounds_toArray, List.set_cons_zero, List.set_cons_succ])
  refine rv_nil (fun w hG hH => ?_)
  have K := Lib.hid (KW.out.trans hG)
  clear hG hH x0 x1 y0 y1 c7
  go_wp2_with fail
  go_ret
  exact ⟨rfl, K.out⟩
end Go.Proofs.YtpigppghcghpbaaGreatDoor

namespace Go.Proofs.YtpigppghcghpbaaGreatDoor
open Go.RowKit

/-- What lent answers. -/
def LentV (x : Int) (n : Nat) (v : Value) : Prop := ∃ g e, v = .agg #[.int .i64 x, .slice (some ⟨g, 0, none⟩) n e] ∧ n + 1 ≤ e
def LentW (B : Nat) (x : Int) (n : Nat) (l : List Int) (v : Value) (_ : Nat × Nat) (w : World) : Prop := ∀ g e, v = .agg #[.int .i64 x, .slice (some ⟨g, 0, none⟩) n e] → w.ownsRow B 56 1 (.slice (some ⟨g, 0, none⟩) (n + 1) e) (n + 1) (ints l)
theorem lentW_kb {B : Nat} {x : Int} {n : Nat} {l : List Int} : ∀ v i a b, KB F0 a b → LentW B x n l v i a → LentW B x n l v i b := fun _ _ _ _ hG h g e hv => own_kb (h g e hv) hG (fun _ _ x => x)
theorem lentV_ex (x : Int) (n : Nat) : ∃ v, LentV x n v := ⟨_, 0, n + 1, rfl, Nat.le_refl _⟩
/-- A place lent, with its row. -/
theorem lent_nw (p : Pl) (a : Option Addr) (c : Nat) (w : World) (h : PlAt w p a c) :
    Calls Tryz.prog 11 #[plV p a c] w fun e w' => ∃ v, e = .returned v ∧ LentV p.loc p.path.length v ∧ KB F0 w w' ∧ ∀ B i, B ≤ w.heap.size → LentW B p.loc p.path.length (p.path ++ [77]) v i w' := by
  refine (lent_any p a c w h).mono ?_
  rintro e w' ⟨g, d, rfl, hd, ho, hk⟩
  refine ⟨_, rfl, ⟨g, d, rfl, hd⟩, hk, fun B i hB g2 e2 hv => ?_⟩
  simp only [Value.agg.injEq, Array.mk.injEq, List.cons.injEq, Value.slice.injEq, Option.some.injEq, Addr.mk.injEq, and_true, true_and] at hv
  obtain ⟨rfl, rfl⟩ := hv
  unfold OwnI at ho
  rw [List.length_append] at ho
  exact own_base ho hB
/-- A cell that holds a lent place. -/
structure LentAt (w : World) (B : Nat) (x : Int) (N : Nat) (l : List Int) (n g e : Nat) : Prop where
  lo : B ≤ n
  cell : w.heap[n]? = some (.cells #[.int .i64 x, .slice (some ⟨g, 0, none⟩) N e] 26 (0, 0))
  cap : N + 1 ≤ e
  own : w.ownsRow B 56 1 (.slice (some ⟨g, 0, none⟩) (N + 1) e) (N + 1) (ints (l ++ [77]))
theorem LentAt.kbF {w w' : World} {B : Nat} {x : Int} {N : Nat} {l : List Int} {n g e : Nat} (h : LentAt w B x N l n g e) (hk : KB F0 w w') : LentAt w' B x N l n g e :=
  ⟨h.lo, hk.heap (fun x => x) h.cell, h.cap, own_kb h.own hk (fun _ _ x => x)⟩
theorem LentAt.kb {w w' : World} {B : Nat} {x : Int} {N : Nat} {l : List Int} {n g e : Nat} (h : LentAt w B x N l n g e) {S : Nat → Prop} (hk : KB S w w') (h1 : ¬ S n) (h2 : ¬ S g) : LentAt w' B x N l n g e :=
  ⟨h.lo, hk.heap h1 h.cell, h.cap, own_kb h.own hk (fun k hk => by simp only [Value.ownBlock, Option.some.injEq] at hk; subst hk; exact h2)⟩
theorem LentAt.ownI {w : World} {B : Nat} {p : Pl} {n g e : Nat} (h : LentAt w B p.loc p.path.length p.path n g e) : OwnI w B (.slice (some ⟨g, 0, none⟩) (p.path.length + 1) e) (p.path ++ [77]) := by
  unfold OwnI
  rw [List.length_append]
  exact h.own
theorem LentAt.pl {w : World} {B : Nat} {p : Pl} {n g e : Nat} (h : LentAt w B p.loc p.path.length p.path n g e) (hs : p.path.length ≤ 100000) : PlAt w p (some ⟨g, 0, none⟩) e := (lent_pl h.ownI hs h.cap).1
theorem LentAt.kept {w : World} {B : Nat} {p : Pl} {n g e : Nat} (h : LentAt w B p.loc p.path.length p.path n g e) (a : Option Addr) (c : Nat) (hp : PlAt w p a c) :
    Calls Tryz.prog 14 #[.agg #[.int .i64 p.loc, .slice (some ⟨g, 0, none⟩) p.path.length e], plV p a c] w fun e w' => e = .returned (.bool true) ∧ KB F0 w w' := kept_any p a c B g e w hp h.ownI h.cap
theorem KB.old {S : Nat → Prop} {w0 w1 w' : World} (h : KB F0 w0 w1) (hk : KB S w1 w') (hS : ∀ k, k < w0.heap.size → ¬ S k) : KB F0 w0 w' :=
  ⟨hk.os.trans h.os, hk.tape.trans h.tape, hk.output.trans h.output, Nat.le_trans h.size hk.size, fun i hi _ => (hk.block i (Nat.lt_of_lt_of_le hi h.size) (hS i hi)).trans (h.block i hi (fun x => x))⟩
/-- The two cells behind the region: each stored, the other one left. -/
theorem lent_two {w w1 : World} {x y : Int} {N M n m g e h f : Nat} {lp lq : List Int} (hG : KB F0 w w1) (hn : w.heap.size ≤ n) (hm : w.heap.size ≤ m) (hne : n ≠ m)
    (h1 : w1.heap[n]? = some (.cells #[.int .i64 0, .slice none 0 0] 26 (0, 0))) (h2 : w1.heap[m]? = some (.cells #[.int .i64 0, .slice none 0 0] 26 (0, 0)))
    (e1 : N + 1 ≤ e) (e2 : M + 1 ≤ f) (o1 : w1.ownsRow w.heap.size 56 1 (.slice (some ⟨g, 0, none⟩) (N + 1) e) (N + 1) (ints (lp ++ [77]))) (o2 : w1.ownsRow w.heap.size 56 1 (.slice (some ⟨h, 0, none⟩) (M + 1) f) (M + 1) (ints (lq ++ [77]))) :
    let W := (((w1.setCell ⟨n, 0, none⟩ (.int .i64 x)).setCell ⟨n, 1, none⟩ (.slice (some ⟨g, 0, none⟩) N e)).setCell ⟨m, 0, none⟩ (.int .i64 y)).setCell ⟨m, 1, none⟩ (.slice (some ⟨h, 0, none⟩) M f)
    KB F0 w W ∧ LentAt W w.heap.size x N lp n g e ∧ LentAt W w.heap.size y M lq m h f := by
  have hty : ∀ {k : Nat} {c : Array Value} {u : Value} {z j : Nat} {xs : List Value}, w1.heap[k]? = some (.cells c 26 (0, 0)) → w1.ownsRow w.heap.size 56 z u j xs → u.ownBlock = some k → False := fun hk hu hb => by
    obtain ⟨c1, h1, -⟩ := own_block hu hb
    rw [hk] at h1
    simp only [Option.some.injEq, Obj.cells.injEq] at h1
    exact absurd h1.2.1 (by decide)
  have hS : KB (fun k => k = n ∨ k = m) w1 ((((w1.setCell ⟨n, 0, none⟩ (.int .i64 x)).setCell ⟨n, 1, none⟩ (.slice (some ⟨g, 0, none⟩) N e)).setCell ⟨m, 0, none⟩ (.int .i64 y)).setCell ⟨m, 1, none⟩ (.slice (some ⟨h, 0, none⟩) M f)) :=
    (((((KB.refl _ _).setCell (p := ⟨n, 0, none⟩) (fun _ => Or.inl rfl) _).setCell (p := ⟨n, 1, none⟩) (fun _ => Or.inl rfl) _).setCell (p := ⟨m, 0, none⟩) (fun _ => Or.inr rfl) _).setCell (p := ⟨m, 1, none⟩) (fun _ => Or.inr rfl) _)
  have b1 := setCell_blk (i := 1) (setCell_blk (i := 0) h1 (.int .i64 x)) (.slice (some ⟨g, 0, none⟩) N e)
  have kn := (kb_set w1 n 0 (.int .i64 x)).trans (kb_set _ n 1 (.slice (some ⟨g, 0, none⟩) N e))
  have b2 := setCell_blk (i := 1) (setCell_blk (i := 0) (kn.heap (fun e => hne e.symm) h2) (.int .i64 y)) (.slice (some ⟨h, 0, none⟩) M f)
  have km := (kb_set ((w1.setCell ⟨n, 0, none⟩ (.int .i64 x)).setCell ⟨n, 1, none⟩ (.slice (some ⟨g, 0, none⟩) N e)) m 0 (.int .i64 y)).trans (kb_set _ m 1 (.slice (some ⟨h, 0, none⟩) M f))
  have b1' := km.heap (b := n) hne b1
  refine ⟨hG.old hS (fun k hk hh => by rcases hh with rfl | rfl <;> omega), ⟨hn, b1', e1, own_kb o1 hS (fun k e hk => ?_)⟩, ⟨hm, b2, e2, own_kb o2 hS (fun k e hk => ?_)⟩⟩
  · rcases hk with rfl | rfl
    · exact hty h1 o1 e
    · exact hty h2 o1 e
  · rcases hk with rfl | rfl
    · exact hty h1 o2 e
    · exact hty h2 o2 e
end Go.Proofs.YtpigppghcghpbaaGreatDoor

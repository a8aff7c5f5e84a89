/- table.meet. -/
import Derived.Test.YtaeppaaolkcbbaaGreatDoorMg30
import Derived.Test.YtaeppaaolkcbbaaGreatDoorMg22
import Derived.Test.YtaeppaaolkcbbaaGreatDoorMg26
import Derived.Laws.OwnMore
namespace Go.Proofs.YtaeppaaolkcbbaaGreatDoor
open Go.RowKit

def SmInv (w00 : World) (b : Nat) (l : List (Nat × Ty)) (W : World) : Prop := KB F0 w00 W ∧ w00.heap.size ≤ b ∧ W.heap[b]? = some (.cells #[.bool (!l.isEmpty)] 4 (0, 0))
theorem sm_met (w00 : World) (b : Nat) : MetOk w00 (fun _ k => k = b) (SmInv w00 b) where
 kb := fun L W h => h.1
 mono := fun L W W' h hk => ⟨⟨h.1.trans hk, h.2.1, hk.heap (fun x => x) h.2.2⟩, fun k hp => Or.inl hp⟩
 fld := fun L W k cs h hc hp => by
  subst hp
  rw [h.2.2] at hc
  simp only [Option.some.injEq, Obj.cells.injEq] at hc
  exact absurd hc.2.1 (by decide)
set_option maxRecDepth 100000 in
set_option maxHeartbeats 8000000 in
theorem sm_step (S : List (List Ty)) (w00 : World) (b : Nat) : BoxStep w00 S 92 #[.pointer (some ⟨b, 0, none⟩)] (fun _ k => k = b) (SmInv w00 b) := by
 intro L p u ua uc w hp hL hinv hlk hu
 obtain ⟨w0, rfl⟩ : ∃ w0, w0 = w := ⟨_, rfl⟩
 obtain ⟨W, hW⟩ : ∃ W, W = w0.alloc (.cells #[.int .u8 u.k, .bool u.m, .int .i64 u.r, .int .i64 u.s, .slice ua u.of.length uc] 26) := ⟨_, rfl⟩
 obtain ⟨kb, hb⟩ := boxTy w0 u ua uc
 rw [← hW] at kb hb
 have hb4 := kb.heap (fun x => x) hinv.2.2
 have c0 : W.cell? ⟨b, 0, none⟩ = some (.bool (!L.isEmpty)) := blk_cell hb4 0
 have f0 := blk_frozen hb4 0
 have HI := Lib.hid (And.intro hinv (And.intro kb hb4))
 have HW := Lib.hid hW
 have HE : Hid ((!(L ++ [(p, u)]).isEmpty) = true) := Lib.hid (by simp)
 generalize (!L.isEmpty) = lb at c0
 unfold tyV
 generalize u.k = uk at *
 generalize u.m = um at *
 generalize u.r = ur at *
 generalize u.s = us at *
 clear hinv hW kb hb hb4 hlk hu
 go_enter Tryz.func92, Tryz.ntmps92
 go_upto_region 1 with fail
 rw [← HW.out]
 go_wp2_with fail
 go_end0
 have ks := kb_set W b 0 (.bool true)
 have kb2 : KB (fun k => k = b) w0 W := HI.out.2.1.mono (fun _ _ x => x.elim)
 refine ⟨rfl, ⟨(HI.out.1.1).oldS (kb2.trans ks) (fun k hk e => by have := HI.out.1.2.1; omega), HI.out.1.2.1, ?_⟩, ⟨kb2.trans ks, fun k hk => Or.inl hk⟩⟩
 rw [HE.out]
 exact setCell_blk (i := 0) HI.out.2.2 _
theorem i64_wf {n : Nat} (h : n ≤ 1000000) : (Lit.int .i64 (n : Int)).wf = true := by
 have h1 : IntKind.i64.min = -9223372036854775808 := by decide
 have h2 : IntKind.i64.max = 9223372036854775807 := by decide
 simp only [Lit.wf, h1, h2, Bool.and_eq_true, decide_eq_true_eq]
 omega
theorem meetL_max {f : Ty → List Ty → List Ty} (hf : ∀ t L, L.length ≤ 4097 → (f t L).length ≤ 4097) : ∀ (l : List (Nat × Ty)) (L : List Ty), L.length ≤ 4097 → (meetL f l L).length ≤ 4097 := by
 intro l
 induction l with
 | nil => intro L h; exact h
 | cons x l ih => intro L h; exact ih _ (hf x.2 L h)
theorem meetN_max (S : List (List Ty)) : ∀ (n : Nat) (t : Ty) (L : List Ty), L.length ≤ 4097 → (meetN S n t L).length ≤ 4097 := by
 intro n
 induction n with
 | zero => intro t L h; exact h
 | succ n ih =>
  intro t L h
  unfold meetN
  split
  ·exact h
  ·rename_i hc
   exact meetL_max ih _ _ (by rw [List.length_append, List.length_singleton]; omega)
theorem TabAt.kbS {w00 : World} {N : Nat} {sa : Option Addr} {sc X mb : Nat} {v : Value} {us : List Value} {L : List Ty} {w w' : World} (h : TabAt w00 N sa sc X mb v us L w) {P : Nat → Prop} (hk : KB P w w') (hP : ∀ k, P k → w00.heap.size ≤ k ∧ k ≠ X ∧ k ≠ mb ∧ v.ownBlock ≠ some k) : TabAt w00 N sa sc X mb v us L w' :=
 ⟨h.kb.oldS hk (fun k hk e => by have := (hP k e).1; omega), h.lo, h.lom, hk.heap (fun e => (hP _ e).2.1 rfl) h.cell, h.map.kb hk (fun e => (hP _ e).2.2.1 rfl), h.list.kb hk (fun g e1 e2 => (hP g e2).2.2.2 e1)⟩
theorem ty_any48 {w : World} : ∀ {n m : Nat} {t : Ty} {a : Option Addr} {c : Nat}, deepT n t = true → TyAt (n + 1) w t a c → TyAt m w t a c := by
 intro n
 induction n with
 | zero =>
  intro m t a c hd h
  have h0 : t.of.length = 0 := by unfold deepT at hd; simpa using hd
  cases m with
  | zero => trivial
  | succ m => exact ⟨by omega, fun i hi => by omega⟩
 | succ n ih =>
  intro m t a c hd h
  cases m with
  | zero => trivial
  | succ m =>
   refine ⟨h.1, fun i hi => ?_⟩
   have h1 := deep_le hd
   obtain rfl : i = 0 := by omega
   obtain ⟨b, o, a', c', e, h2, h3⟩ := h.2 0 hi
   obtain ⟨q, hq, hd'⟩ := deep_in hd (by omega)
   obtain rfl : n = q := by omega
   exact ⟨b, o, a', c', e, h2, ih hd' h3⟩
theorem wp_absW {P : Program} {c : Code} {K : Exit → Act → World → Prop} {a : Act} {w : World} (w5 : World) (h : KB F0 w5 w) (k : ∀ w', KB F0 w5 w' → c.wp P K a w') : c.wp P K a w := k w h
theorem list_appT {ops : Array Oper} {rest : List Oper} {o : Oper} {a : Act} {Q : Exit → Act → World → Prop} {w : World} (hgd : o.guard = none) (s x : Operand)
  (ho : o.op = .call { callee := .builtin .append, args := #[s, x], argTypes := #[24, 24] }) (base : Nat) (v : Value) (n : Nat) (us : List Value) (hs : a.eval s = v) (hown : w.ownsRow base 26 5 v n us)
  (nb c : Nat) (cs : List Value) (hx : a.eval x = .slice (some ⟨nb, 0, none⟩) 1 c) (hl : cs.length = 5) (hb : w.heap[nb]? = some (.cells cs.toArray 26 (0, 0))) (h1 : ∀ u ∈ cs, u.oneCell' = true) (hn : n ≤ 1000000) (hbase : base ≤ w.heap.size)
  (h : ∀ g cap w', w'.ownsRow base 26 5 (.slice (some ⟨g, 0, none⟩) (n + 1) cap) (n + 1) (us ++ cs) → KB (fun k => v.ownBlock = some k) w w' → (v.ownBlock = some g ∨ g = w.heap.size) → wpList Tryz.prog ops Q rest (a.put o.dst (.slice (some ⟨g, 0, none⟩) (n + 1) cap)) w') : wpList Tryz.prog ops Q (o :: rest) a w := by
 obtain ⟨i, hi, hz0, hz1, hz2⟩ := info_parts Tryz.infoTy
 exact wpList_append_lies w hgd s x 24 ho base 26 i _ 5 48 Tryz.underlying24' hi hz0 hz1 hz2 (by decide) (by decide) v n us hs hown ⟨nb, 0, none⟩ 1 c cs hx (by rw [hl]) (cells_of_block hb) h1 (by decide) (by unfold maxLen; omega) (by omega) hbase _ rfl
  (fun g cap w' h1 h2 h3 _ => h g cap w' h1 (KB.ofGrownBy h2) h3)
theorem tyCs_one (t : Ty) (ta : Option Addr) (tc : Nat) : ∀ u ∈ tyCs t ta tc, u.oneCell' = true := by
 intro u hu; simp only [tyCs, List.mem_cons, List.not_mem_nil, or_false] at hu; rcases hu with rfl | rfl | rfl | rfl | rfl <;> rfl
def MtEnd (w00 : World) (S : List (List Ty)) (sa : Option Addr) (sc X mb n : Nat) (t : Ty) (L : List Ty) (w : World) (e : Ending) (w' : World) : Prop :=
 e = .returned (.tuple #[]) ∧ TabInv w00 S.length sa sc X mb (meetN S n t L) w' ∧ StepOk (TabP X mb) w w'
theorem set_app5 (us : List Value) (a0 a1 a2 a3 a4 z0 z1 z2 z3 z4 : Value) {n : Nat} (h : us.length = n) : (((((us ++ [z0, z1, z2, z3, z4]).set n a0).set (n + 1) a1).set (n + 2) a2).set (n + 3) a3).set (n + 4) a4 = us ++ [a0, a1, a2, a3, a4] := by
 subst h
 rw [List.set_append_right _ _ (Nat.le_refl _), List.set_append_right _ _ (by omega), List.set_append_right _ _ (by omega), List.set_append_right _ _ (by omega), List.set_append_right _ _ (by omega)]
 simp only [Nat.sub_self, Nat.add_sub_cancel_left, List.set_cons_zero, List.set_cons_succ]
theorem KB.old2 {S T : Nat → Prop} {w0 w1 w' : World} (h : KB S w0 w1) (hk : KB T w1 w') (hT : ∀ k, k < w0.heap.size → T k → S k) : KB S w0 w' :=
 ⟨hk.os.trans h.os, hk.tape.trans h.tape, hk.output.trans h.output, Nat.le_trans h.size hk.size, fun i hi hn => (hk.block i (Nat.lt_of_lt_of_le hi h.size) (fun e => hn (hT i hi e))).trans (h.block i hi hn)⟩
def MtInv (w00 : World) (S : List (List Ty)) (sa : Option Addr) (sc X mb n b : Nat) (L1 : List Ty) (l : List (Nat × Ty)) (W : World) : Prop :=
 TabInv w00 S.length sa sc X mb (meetL (meetN S n) l L1) W ∧ w00.heap.size ≤ b ∧ W.heap[b]? = some (.cells #[.pointer (some ⟨X, 0, none⟩)] 104 (0, 0))
theorem tabP_not {w00 : World} {N : Nat} {sa : Option Addr} {sc X mb : Nat} {v : Value} {us : List Value} {L : List Ty} {W : World} (h : TabAt w00 N sa sc X mb v us L W) {b : Nat} {cs : Array Value} {ty : TypeId} (hb : W.heap[b]? = some (.cells cs ty (0, 0))) (h1 : ty ≠ 109) (h2 : ty ≠ 26) : ¬ TabP X mb W b := by
 rintro (rfl | rfl | ⟨c0, c1, u, e1, e2⟩)
 ·rw [h.cell] at hb
  simp only [Option.some.injEq, Obj.cells.injEq] at hb
  exact h1 hb.2.1.symm
 ·obtain ⟨D, ⟨es, clock, h3, -⟩, -⟩ := h.map
  rw [h3] at hb
  cases hb
 ·rw [h.cell] at e1
  simp only [Option.some.injEq, Obj.cells.injEq, Array.mk.injEq, List.cons.injEq, and_true] at e1
  obtain ⟨rfl, rfl, rfl⟩ := e1
  obtain ⟨c, h3, -⟩ := own_block h.list.row e2
  rw [h3] at hb
  simp only [Option.some.injEq, Obj.cells.injEq] at hb
  exact h2 hb.2.1.symm
theorem mt_met (w00 : World) (S : List (List Ty)) (sa : Option Addr) (sc X mb n b : Nat) (L1 : List Ty) : MetOk w00 (TabP X mb) (MtInv w00 S sa sc X mb n b L1) where
 kb := fun L W h => (tab_met w00 S.length sa sc X mb (fun l => meetL (meetN S n) l L1)).kb L W h.1
 mono := fun L W W' h hk => ⟨⟨((tab_met w00 S.length sa sc X mb (fun l => meetL (meetN S n) l L1)).mono L W W' h.1 hk).1, h.2.1, hk.heap (fun x => x) h.2.2⟩, ((tab_met w00 S.length sa sc X mb (fun l => meetL (meetN S n) l L1)).mono L W W' h.1 hk).2⟩
 fld := fun L W k cs h hc => (tab_met w00 S.length sa sc X mb (fun l => meetL (meetN S n) l L1)).fld L W k cs h.1 hc
set_option maxRecDepth 100000 in
set_option maxHeartbeats 8000000 in
theorem mt_step (w00 : World) (S : List (List Ty)) (sa : Option Addr) (sc X mb n b : Nat) (L1 : List Ty) (hS32 : S.length ≤ 32) (hL1 : L1.length ≤ 4097) (hn : 4098 ≤ n + L1.length)
  (ih : ∀ (t : Ty) (ta : Option Addr) (tc : Nat) (L : List Ty) (w : World), lookB S.length 48 t = true → TyAt 49 w00 t ta tc → TabInv w00 S.length sa sc X mb L w → L.length ≤ 4097 → 4098 ≤ n + L.length → Calls Tryz.prog 78 #[.pointer (some ⟨X, 0, none⟩), tyV t ta tc] w (MtEnd w00 S sa sc X mb n t L w)) :
  BoxStep w00 S 93 #[.pointer (some ⟨b, 0, none⟩)] (TabP X mb) (MtInv w00 S sa sc X mb n b L1) := by
 intro Lb p u ua uc w hp hL hinv hlk hu
 obtain ⟨w0, rfl⟩ : ∃ w0, w0 = w := ⟨_, rfl⟩
 obtain ⟨W, hW⟩ : ∃ W, W = w0.alloc (.cells #[.int .u8 u.k, .bool u.m, .int .i64 u.r, .int .i64 u.s, .slice ua u.of.length uc] 26) := ⟨_, rfl⟩
 obtain ⟨kb, hb⟩ := boxTy w0 u ua uc
 rw [← hW] at kb hb
 obtain ⟨c0, c1, c2, c3, c4⟩ := TyCells.of_block hb
 simp only [Nat.zero_add] at c0 c1 c2 c3 c4
 obtain ⟨hinv1, hst1⟩ := (mt_met w00 S sa sc X mb n b L1).step hinv kb
 have p0 : W.cell? ⟨b, 0, none⟩ = some (.pointer (some ⟨X, 0, none⟩)) := blk_cell hinv1.2.2 0
 have hlen := meetL_le (f := meetN S n) (fun t L => meetN_le S n t L) Lb L1
 have CM := Lib.hid (ih u ua uc (meetL (meetN S n) Lb L1) W (look_mono (Nat.le_refl _) (by decide) hlk) (ty_any48 (deep_look1 (n := 46) hlk) (hu.le (by decide))) hinv1.1 (meetL_max (fun t L h => meetN_max S n t L h) Lb L1 hL1) (by omega))
 unfold tyV at CM ⊢
 have HI := Lib.hid (And.intro hinv1 hst1)
 have HW := Lib.hid hW
 generalize u.k = uk at *
 generalize u.m = um at *
 generalize u.r = ur at *
 generalize u.s = us at *
 clear hinv hinv1 hst1 hW kb hb hlk hu ih hL hlen
 go_enter Tryz.func93, Tryz.ntmps93
 go_upto_region 1 with fail
 rw [← HW.out]
 go_wp2_with fail
 refine CM.out.mono ?_
 rintro e w1 ⟨rfl, h1, h2⟩
 have H1 := Lib.hid (And.intro h1 h2)
 clear h1 h2 c0 c1 c2 c3 c4 p0
 go_wp2_with fail
 go_end0
 obtain ⟨v, vs, hT⟩ := HI.out.1.1
 refine ⟨rfl, ⟨by rw [meetL_snoc]; exact H1.out.1, HI.out.1.2.1, H1.out.2.kb.heap (tabP_not hT HI.out.1.2.2 (by decide) (by decide)) HI.out.1.2.2⟩, HI.out.2.trans H1.out.2⟩
set_option maxRecDepth 100000 in
set_option maxHeartbeats 64000000 in
theorem meet_step (w00 : World) (S : List (List Ty)) (hg : GoodS S) (sa : Option Addr) (sc : Nat) (hS : StsAt 49 w00 sa S) (X mb n : Nat)
  (ih : ∀ (t : Ty) (ta : Option Addr) (tc : Nat) (L : List Ty) (w : World), lookB S.length 48 t = true → TyAt 49 w00 t ta tc → TabInv w00 S.length sa sc X mb L w → L.length ≤ 4097 → 4098 ≤ n + L.length → Calls Tryz.prog 78 #[.pointer (some ⟨X, 0, none⟩), tyV t ta tc] w (MtEnd w00 S sa sc X mb n t L w))
  (t : Ty) (ta : Option Addr) (tc : Nat) (L : List Ty) (w : World) (hlk : lookB S.length 48 t = true) (ht : TyAt 49 w00 t ta tc) (hT : TabInv w00 S.length sa sc X mb L w) (hL : L.length ≤ 4097) (hn : 4098 ≤ n + 1 + L.length) :
  Calls Tryz.prog 78 #[.pointer (some ⟨X, 0, none⟩), tyV t ta tc] w (MtEnd w00 S sa sc X mb (n + 1) t L w) := by
 obtain ⟨w0, rfl⟩ : ∃ w0, w0 = w := ⟨_, rfl⟩
 obtain ⟨v, us, hT⟩ := hT
 obtain ⟨W, hW⟩ : ∃ W, W = ((w0.alloc (.cells #[.pointer (some ⟨X, 0, none⟩)] 104)).alloc (.cells #[.int .u8 t.k, .bool t.m, .int .i64 t.r, .int .i64 t.s, .slice ta t.of.length tc] 26)).alloc (.cells #[.bool false] 4) := ⟨_, rfl⟩
 obtain ⟨hk, hb1, hb2, hb3, hsz⟩ := new3 w0 #[.pointer (some ⟨X, 0, none⟩)] #[.int .u8 t.k, .bool t.m, .int .i64 t.r, .int .i64 t.s, .slice ta t.of.length tc] #[.bool false] 104 26 4
 rw [← hW] at hk hb1 hb2 hb3 hsz
 have h32 : lookB 32 48 t = true := look_mono hg.len (Nat.le_refl 48) hlk
 have p0 : W.cell? ⟨w0.heap.size, 0, none⟩ = some (.pointer (some ⟨X, 0, none⟩)) := blk_cell hb1 0
 have t0 : W.cell? ⟨w0.heap.size + 1, 0, none⟩ = some (.int .u8 t.k) := blk_cell hb2 0
 have t1 : W.cell? ⟨w0.heap.size + 1, 1, none⟩ = some (.bool t.m) := blk_cell hb2 1
 have t2 : W.cell? ⟨w0.heap.size + 1, 2, none⟩ = some (.int .i64 t.r) := blk_cell hb2 2
 have t3 : W.cell? ⟨w0.heap.size + 1, 3, none⟩ = some (.int .i64 t.s) := blk_cell hb2 3
 have t4 : W.cell? ⟨w0.heap.size + 1, 4, none⟩ = some (.slice ta t.of.length tc) := blk_cell hb2 4
 have x0 : W.cell? ⟨X, 0, none⟩ = some (.slice sa S.length sc) := blk_cell (hk.heap (fun x => x) hT.cell) 0
 have hen : ∀ args W, (callFunc 92 args).run Tryz.prog W = .ok (.enter 92 args) W := lyEn (fn := Tryz.f92) Tryz.func92 (by decide) (fun e => by cases e)
 have hw16 := hg.w16 34 t (hg.fin t) (look_inT hlk)
 have k00 := hT.kb.trans hk
 have hlo := hT.kb.size
 have B1 := Lib.hid (fun (V : World) (hV : KB F0 W V) => lyboxes_any hg sa sc w00 hS 92 #[.pointer (some ⟨w0.heap.size + 1 + 1, 0, none⟩)] (fun _ k => k = w0.heap.size + 1 + 1) (SmInv w00 (w0.heap.size + 1 + 1)) hen (sm_met w00 _) (sm_step S w00 _) 34 t ta tc 0 [] V
  (hg.fin t) hlk (by omega) (by simp; omega) ht ⟨k00.trans hV, by omega, hV.heap (fun x => x) hb3⟩)
 have HH := Lib.hid (And.intro hT (And.intro hk (And.intro hb1 (And.intro hb2 (And.intro hb3 (And.intro hsz (And.intro h32 (And.intro hlk (And.intro ht (And.intro hg hS))))))))))
 have HLN := Lib.hid (And.intro hL hn)
 have IH := Lib.hid ih
 obtain ⟨bx, hbx⟩ : ∃ b, b = bxF S 34 t 0 := ⟨_, rfl⟩
 rw [List.nil_append, ← hbx] at B1
 have HBX := Lib.hid hbx
 obtain ⟨NS, hNS⟩ : ∃ n, n = S.length := ⟨_, rfl⟩
 have HNS := Lib.hid hNS
 rw [← hNS] at x0 B1
 unfold tyV at B1 ⊢
 have HW := Lib.hid hW
 have HEND := Lib.hid (show ∀ e w', MtEnd w00 S sa sc X mb (n + 1) t L w0 e w' → MtEnd w00 S sa sc X mb (n + 1) t L w0 e w' from fun _ _ h => h)
 clear hk hb1 hb2 hb3 hsz h32 hlk ht hT hg hS hL hn ih hbx hNS hW hen hw16 k00 hlo
 go_enter Tryz.func78, Tryz.ntmps78
 go_upto_region 2 with fail
 rw [← HW.out]
 refine wp_region_rv 6 GK (kindW []) (by kernel_rfl) (by kernel_rfl) (kb_trans _) (kb_refl _) (kb_start _ _) (kindW_mono _ (by intro p hp; cases hp)) ?_
 simp only [pT, pU, pV, pW]
 refine rv_det (by kernel_rfl) rfl (by intro w hG hH; have hc0 := kc hG (p0); go_simp; first | done | with_reducible rfl) ?_
 simp only [Act.put, pA, pZ, pS]
 iterate 2 (refine rv_det (by kernel_rfl) rfl (by intro w hG hH; go_simp; first | done | with_reducible rfl) ?_; simp only [Act.put, pA, pZ, pS])
 refine rv_det (by kernel_rfl) rfl (by intro w hG hH; have hc0 := kc hG (x0); go_simp; first | done | with_reducible rfl) ?_
 simp only [Act.put, pA, pZ, pS]
 refine rv_det (by kernel_rfl) rfl (by intro w hG hH; have hc0 := kc hG (t0); have hc1 := kc hG (t1); have hc2 := kc hG (t2); have hc3 := kc hG (t3); have hc4 := kc hG (t4); go_simp; first | done | with_reducible rfl) ?_
 simp only [Act.put, pA, pZ, pS]
 refine rv_det (by kernel_rfl) rfl (by intro w hG hH; go_simp; first | done | with_reducible rfl) ?_
 simp only [Act.put, pA, pZ, pS]
 refine rv_nil (fun w hG hH => ?_)
 have H1 := Lib.hid hG
 clear hG hH p0 t0 t1 t2 t3 t4 x0
 go_wp2_with fail
 refine (B1.out _ H1.out).mono ?_
 rintro e w2 ⟨rfl, hsm, hst⟩
 have KA := Lib.hid (H1.out)
 have H2 : Hid (KB F0 w0 w2 ∧ TabAt w00 S.length sa sc X mb v us L w2 ∧ w2.heap[w0.heap.size]? = some (.cells #[.pointer (some ⟨X, 0, none⟩)] 104 (0, 0)) ∧ w2.heap[w0.heap.size + 1]? = some (.cells #[.int .u8 t.k, .bool t.m, .int .i64 t.r, .int .i64 t.s, .slice ta t.of.length tc] 26 (0, 0)) ∧ w2.heap[w0.heap.size + 1 + 1]? = some (.cells #[.bool (!bx.isEmpty)] 4 (0, 0))) := by
  obtain ⟨hT, hk, hb1, hb2, hb3, hsz, h32, hlk, ht, hg, hS⟩ := HH.out
  have s1 := hT.kb.size
  have lX := heap_lt hT.cell
  have lm := hT.map.lt
  refine Lib.hid ⟨(hk.trans H1.out).oldS hst.kb (fun k hk e => by omega), (hT.kbF (hk.trans H1.out)).kbS hst.kb (fun k e => ⟨by omega, by omega, by omega, fun e2 => by have := (hT.list.row.lt k e2).2; omega⟩), hst.kb.heap (by omega) (H1.out.heap (fun x => x) hb1), hst.kb.heap (by omega) (H1.out.heap (fun x => x) hb2), hsm.2.2⟩
 clear hsm hst B1
 obtain ⟨q2, T2, hb1, hb2, hb4⟩ := H2.out
 have p0 : w2.cell? ⟨w0.heap.size, 0, none⟩ = some (.pointer (some ⟨X, 0, none⟩)) := blk_cell hb1 0
 have t0 : w2.cell? ⟨w0.heap.size + 1, 0, none⟩ = some (.int .u8 t.k) := blk_cell hb2 0
 have t1 : w2.cell? ⟨w0.heap.size + 1, 1, none⟩ = some (.bool t.m) := blk_cell hb2 1
 have t2 : w2.cell? ⟨w0.heap.size + 1, 2, none⟩ = some (.int .i64 t.r) := blk_cell hb2 2
 have t3 : w2.cell? ⟨w0.heap.size + 1, 3, none⟩ = some (.int .i64 t.s) := blk_cell hb2 3
 have t4 : w2.cell? ⟨w0.heap.size + 1, 4, none⟩ = some (.slice ta t.of.length tc) := blk_cell hb2 4
 have x1 : w2.cell? ⟨X, 1, none⟩ = some (.map (some mb)) := blk_cell T2.cell 1
 have TX := Lib.hid (fun (V : World) (hV : KB F0 w2 V) => lytext_any t ta tc V HH.out.2.2.2.2.2.2.1 (HH.out.2.2.2.2.2.2.2.2.1.kbF (T2.kb.trans hV)))
 have HM := Lib.hid (fun (V : World) (hV : KB F0 w2 V) => mapIs_look (T2.map.kb hV (fun x => x)) (txB 48 t) (by have := keyB_size HH.out.2.2.2.2.2.2.1; unfold maxLen; omega))
 rw [show (txB 48 t).data.toList = keyB t from rfl] at HM
 obtain ⟨R, hR⟩ : ∃ R, R = txB 48 t := ⟨_, rfl⟩
 rw [← hR] at TX HM
 have HRR := Lib.hid hR
 obtain ⟨gi, hgi⟩ : ∃ g, g = (idxF L (keyB t)).getD 0 := ⟨_, rfl⟩
 obtain ⟨gb, hgb⟩ : ∃ g, g = (idxF L (keyB t)).isSome := ⟨_, rfl⟩
 rw [← hgi, ← hgb] at HM
 have HGB := Lib.hid hgb
 unfold tyV at TX
 clear hR hgi hgb q2 T2 hb1 hb2 hb4
 go_upto_region 3 with fail
 refine wp_region_rv 12 GK (kindW [(5, (fun v => v = .string R), (fun _ _ => True))]) (by kernel_rfl) (by kernel_rfl) (kb_trans _) (kb_refl _) (kb_start _ _) (kindW_mono _ (by intro p hp; simp only [List.mem_cons, List.not_mem_nil, or_false] at hp; rcases hp with rfl <;> exact lasts_true)) ?_
 simp only [pT, pU, pV, pW]
 refine rv_det (by kernel_rfl) rfl (by intro w hG hH; have hc0 := kc hG (p0); go_simp; first | done | with_reducible rfl) ?_
 simp only [Act.put, pA, pZ, pS]
 iterate 2 (refine rv_det (by kernel_rfl) rfl (by intro w hG hH; go_simp; first | done | with_reducible rfl) ?_; simp only [Act.put, pA, pZ, pS])
 refine rv_det (by kernel_rfl) rfl (by intro w hG hH; have hc0 := kc hG (x1); go_simp; first | done | with_reducible rfl) ?_
 simp only [Act.put, pA, pZ, pS]
 refine rv_det (by kernel_rfl) rfl (by intro w hG hH; have hc0 := kc hG (t0); have hc1 := kc hG (t1); have hc2 := kc hG (t2); have hc3 := kc hG (t3); have hc4 := kc hG (t4); go_simp; first | done | with_reducible rfl) ?_
 simp only [Act.put, pA, pZ, pS]
 refine rv_rel (by kernel_rfl) rfl ⟨_, rfl⟩ (by
  intro w hG hH
  refine opVal_call (by go_simp; first | done | exact ⟨⟨rfl, rfl⟩, rfl⟩) ?_
  refine (TX.out _ hG).mono ?_
  rintro e w' ⟨rfl, hq⟩
  exact ⟨_, rfl, rfl, by first | (obtain ⟨nq, rfl⟩ := hq; exact (KB.refl _ _).drewN _) | (subst hq; exact KB.refl _ _) | exact hq, trivial⟩) ?_
 rintro v rfl
 simp only [Act.put, pA, pZ, pS]
 refine rv_det (by kernel_rfl) rfl (by intro w hG hH; have e := HM.out w hG; go_simp; first | done | with_reducible rfl) ?_
 simp only [Act.put, pA, pZ, pS]
 iterate 5 (refine rv_det (by kernel_rfl) rfl (by intro w hG hH; go_simp; first | done | with_reducible rfl) ?_; simp only [Act.put, pA, pZ, pS])
 refine rv_nil (fun w hG hH => ?_)
 obtain ⟨w3, rfl⟩ : ∃ x, x = w := ⟨_, rfl⟩
 obtain ⟨LN, hLN⟩ : ∃ n, n = L.length := ⟨_, rfl⟩
 obtain ⟨la, lc, hv, hlc, -⟩ := own_shape H2.out.2.1.list.row
 have H3 : Hid (KB F0 w0 w3 ∧ TabAt w00 S.length sa sc X mb v us L w3 ∧ w3.heap[w0.heap.size]? = some (.cells #[.pointer (some ⟨X, 0, none⟩)] 104 (0, 0)) ∧ w3.heap[w0.heap.size + 1]? = some (.cells #[.int .u8 t.k, .bool t.m, .int .i64 t.r, .int .i64 t.s, .slice ta t.of.length tc] 26 (0, 0)) ∧ w3.heap[w0.heap.size + 1 + 1]? = some (.cells #[.bool (!bx.isEmpty)] 4 (0, 0))) := by
  obtain ⟨q2, T2, hb1, hb2, hb4⟩ := H2.out
  exact Lib.hid ⟨q2.trans hG, T2.kbF hG, hG.heap (fun x => x) hb1, hG.heap (fun x => x) hb2, hG.heap (fun x => x) hb4⟩
 have x2 : w3.cell? ⟨X, 2, none⟩ = some (.slice la LN lc) := by rw [hLN, ← hv]; exact blk_cell H3.out.2.1.cell 2
 have p0 : w3.cell? ⟨w0.heap.size, 0, none⟩ = some (.pointer (some ⟨X, 0, none⟩)) := blk_cell H3.out.2.2.1 0
 have b0 : w3.cell? ⟨w0.heap.size + 1 + 1, 0, none⟩ = some (.bool (!bx.isEmpty)) := blk_cell H3.out.2.2.2.2 0
 have HV := Lib.hid (And.intro hv (And.intro hlc hLN))
 have hLb : LN ≤ 4097 := by rw [hLN]; exact HLN.out.1
 have HSAME : Hid (∀ (h : bx.length = 0 ∨ gb = true ∨ 4096 < LN), MtEnd w00 S sa sc X mb (n + 1) t L w0 (.returned (.tuple #[])) w3) := Lib.hid (fun h => by
  refine ⟨rfl, ?_, H3.out.1.mono (fun _ _ x => x.elim), fun k hk => ?_⟩
  ·unfold meetN
   rw [← HBX.out, ← HGB.out, ← HV.out.2.2, if_pos h]
   exact ⟨v, us, H3.out.2.1⟩
  ·have hT := HH.out.1
   rcases hk with rfl | rfl | ⟨c0, c1, u, h1, h2⟩
   ·exact Or.inl (Or.inl rfl)
   ·exact Or.inl (Or.inr (Or.inl rfl))
   ·rw [H3.out.2.1.cell] at h1
    simp only [Option.some.injEq, Obj.cells.injEq, Array.mk.injEq, List.cons.injEq, and_true] at h1
    obtain ⟨rfl, rfl, rfl⟩ := h1
    exact Or.inl (Or.inr (Or.inr ⟨_, _, _, hT.cell, h2⟩)))
 clear hv hlc hLN hG hH x1 t0 t1 t2 t3 t4
 cases gb with
 | true =>
  have HR := Lib.hid (HSAME.out (Or.inr (Or.inl (by first | rfl | trivial))))
  clear HSAME
  generalize bx.isEmpty = eb at b0
  cases eb
  all_goals
   as_aux_lemma =>
   go_wp2_with fail
   exact bodyPost_ret (v := .tuple #[]) (by apply results_none; rfl) rfl HR.out
 | false =>
 by_cases hbe : bx.isEmpty = true
 ·have HR := Lib.hid (HSAME.out (Or.inl (by rw [List.isEmpty_iff] at hbe; rw [hbe]; rfl)))
  clear HSAME
  rw [hbe] at b0
  as_aux_lemma =>
  go_wp2_with fail
  exact bodyPost_ret (v := .tuple #[]) (by apply results_none; rfl) rfl HR.out
 by_cases h40 : 4096 < LN
 ·have HR := Lib.hid (HSAME.out (Or.inr (Or.inr h40)))
  clear HSAME
  have d1 : decide ((4096 : Int) < (LN : Int)) = true := decide_eq_true (by omega)
  have d2 : decide (4096 < LN) = true := decide_eq_true h40
  have hbf : bx.isEmpty = false := by simpa using hbe
  rw [hbf] at b0
  as_aux_lemma =>
  go_wp2_with fail
  exact bodyPost_ret (v := .tuple #[]) (by apply results_none; rfl) rfl HR.out
 have d1 : decide ((4096 : Int) < (LN : Int)) = false := decide_eq_false (by omega)
 have d2 : decide (4096 < LN) = false := decide_eq_false h40
 have hbf : bx.isEmpty = false := by simpa using hbe
 have HBE := Lib.hid hbf
 rw [hbf] at b0
 clear hbf hbe HSAME
 go_upto_region 5 with fail
 have t0 : w3.cell? ⟨w0.heap.size + 1, 0, none⟩ = some (.int .u8 t.k) := blk_cell H3.out.2.2.2.1 0
 have t1 : w3.cell? ⟨w0.heap.size + 1, 1, none⟩ = some (.bool t.m) := blk_cell H3.out.2.2.2.1 1
 have t2 : w3.cell? ⟨w0.heap.size + 1, 2, none⟩ = some (.int .i64 t.r) := blk_cell H3.out.2.2.2.1 2
 have t3 : w3.cell? ⟨w0.heap.size + 1, 3, none⟩ = some (.int .i64 t.s) := blk_cell H3.out.2.2.2.1 3
 have t4 : w3.cell? ⟨w0.heap.size + 1, 4, none⟩ = some (.slice ta t.of.length tc) := blk_cell H3.out.2.2.2.1 4
 have x1 : w3.cell? ⟨X, 1, none⟩ = some (.map (some mb)) := blk_cell H3.out.2.1.cell 1
 have TY := Lib.hid (fun (V : World) (hV : KB F0 w3 V) => lytext_any t ta tc V HH.out.2.2.2.2.2.2.1 (HH.out.2.2.2.2.2.2.2.2.1.kbF (H3.out.2.1.kb.trans hV)))
 rw [← HRR.out] at TY
 unfold tyV at TY
 clear b0 d1 d2 TX HM
 refine wp_region_rv 11 GK (kindW [(5, (fun v => v = .string R), (fun _ _ => True))]) (by kernel_rfl) (by kernel_rfl) (kb_trans _) (kb_refl _) (kb_start _ _) (kindW_mono _ (by intro p hp; simp only [List.mem_cons, List.not_mem_nil, or_false] at hp; rcases hp with rfl <;> exact lasts_true)) ?_
 simp only [pT, pU, pV, pW]
 refine rv_det (by kernel_rfl) rfl (by intro w hG hH; have hc0 := kc hG (p0); go_simp; first | done | with_reducible rfl) ?_
 simp only [Act.put, pA, pZ, pS]
 iterate 2 (refine rv_det (by kernel_rfl) rfl (by intro w hG hH; go_simp; first | done | with_reducible rfl) ?_; simp only [Act.put, pA, pZ, pS])
 refine rv_det (by kernel_rfl) rfl (by intro w hG hH; have hc0 := kc hG (x1); go_simp; first | done | with_reducible rfl) ?_
 simp only [Act.put, pA, pZ, pS]
 refine rv_det (by kernel_rfl) rfl (by intro w hG hH; have hc0 := kc hG (t0); have hc1 := kc hG (t1); have hc2 := kc hG (t2); have hc3 := kc hG (t3); have hc4 := kc hG (t4); go_simp; first | done | with_reducible rfl) ?_
 simp only [Act.put, pA, pZ, pS]
 refine rv_rel (by kernel_rfl) rfl ⟨_, rfl⟩ (by
  intro w hG hH
  refine opVal_call (by go_simp; first | done | exact ⟨⟨rfl, rfl⟩, rfl⟩) ?_
  refine (TY.out _ hG).mono ?_
  rintro e w' ⟨rfl, hq⟩
  exact ⟨_, rfl, rfl, by first | (obtain ⟨nq, rfl⟩ := hq; exact (KB.refl _ _).drewN _) | (subst hq; exact KB.refl _ _) | exact hq, trivial⟩) ?_
 rintro v rfl
 simp only [Act.put, pA, pZ, pS]
 refine rv_det (by kernel_rfl) rfl (by intro w hG hH; have hc0 := kc hG (p0); go_simp; first | done | with_reducible rfl) ?_
 simp only [Act.put, pA, pZ, pS]
 iterate 2 (refine rv_det (by kernel_rfl) rfl (by intro w hG hH; go_simp; first | done | with_reducible rfl) ?_; simp only [Act.put, pA, pZ, pS])
 refine rv_det (by kernel_rfl) rfl (by intro w hG hH; have hc0 := kc hG (x2); go_simp; first | done | with_reducible rfl) ?_
 simp only [Act.put, pA, pZ, pS]
 refine rv_det (by kernel_rfl) rfl (by intro w hG hH; go_simp; first | done | with_reducible rfl) ?_
 simp only [Act.put, pA, pZ, pS]
 refine rv_nil (fun w hG hH => ?_)
 obtain ⟨w4, rfl⟩ : ∃ x, x = w := ⟨_, rfl⟩
 obtain ⟨w5, hrun, hm5, k5⟩ := mapIs_put (H3.out.2.1.map.kb hG (fun x => x)) (by have h1 := HV.out.2.2; have h2 := HLN.out.1; unfold maxLen; omega) R (by rw [HRR.out]; have := keyB_size HH.out.2.2.2.2.2.2.1; unfold maxLen; omega) (LN : Int) (i64_wf (by have h1 := HV.out.2.2; have h2 := HLN.out.1; omega))
 have hfx : (fun l => if l = R.data.toList then some (LN : Int) else idxF L l) = idxF (L ++ [t]) := by
  rw [idxF_snoc (by have h := HGB.out; cases hq : idxF L (keyB t) with | none => rfl | some i => rw [hq] at h; cases h), ← HV.out.2.2, HRR.out]
  rfl
 rw [hfx] at hm5
 have H5 : Hid (KB (fun k => k = mb) w0 w5 ∧ MapIs w5 mb (L.length + 1) (idxF (L ++ [t])) ∧ w5.heap[X]? = some (.cells #[.slice sa S.length sc, .map (some mb), .slice la LN lc] 109 (0, 0)) ∧ OwnTl w00 w5 v L us ∧ w5.heap[w0.heap.size]? = some (.cells #[.pointer (some ⟨X, 0, none⟩)] 104 (0, 0)) ∧ w5.heap[w0.heap.size + 1]? = some (.cells #[.int .u8 t.k, .bool t.m, .int .i64 t.r, .int .i64 t.s, .slice ta t.of.length tc] 26 (0, 0))) := by
  obtain ⟨q3, T3, g1, g2, g3⟩ := H3.out
  have T4 := T3.kbF hG
  have lm := HH.out.1.map.lt
  have lX : X ≠ mb := fun e => by
   obtain ⟨D, ⟨es, clock, h1, -⟩, -⟩ := T4.map
   rw [← e, T4.cell] at h1
   cases h1
  refine Lib.hid ⟨((q3.trans hG).mono (fun _ _ x => x.elim)).trans k5, hm5, ?_, T4.list.kb k5 (fun g e1 e2 => ?_), k5.heap (by omega) (hG.heap (fun x => x) g1), k5.heap (by omega) (hG.heap (fun x => x) g2)⟩
  ·rw [← HV.out.2.2.symm, ← HV.out.1]
   exact k5.heap lX T4.cell
  ·obtain ⟨c, h3, -⟩ := own_block T4.list.row e1
   obtain ⟨D, ⟨es, clock, h1, -⟩, -⟩ := T4.map
   rw [e2, h1] at h3
   cases h3
 clear hm5 k5 hfx hG hH p0 t0 t1 t2 t3 t4 x1 x2
 go_upto_region 6 with fail
 go_region
 all_goals
  go_wp2_with fail
  refine wp_absW w5 (by repeat (first | exact KB.refl _ _ | refine KB.drew ?_ | refine KB.alloc ?_ _ | refine kb_new ?_ (Nat.le_refl _) _ _)) (fun w6 k6 => ?_)
  have g6 := k6.heap (fun x => x) H5.out.2.2.2.2.1
  have h6 := k6.heap (fun x => x) H5.out.2.2.2.2.2
  have p0 : w6.cell? ⟨w0.heap.size, 0, none⟩ = some (.pointer (some ⟨X, 0, none⟩)) := blk_cell g6 0
  have t0 : w6.cell? ⟨w0.heap.size + 1, 0, none⟩ = some (.int .u8 t.k) := blk_cell h6 0
  have t1 : w6.cell? ⟨w0.heap.size + 1, 1, none⟩ = some (.bool t.m) := blk_cell h6 1
  have t2 : w6.cell? ⟨w0.heap.size + 1, 2, none⟩ = some (.int .i64 t.r) := blk_cell h6 2
  have t3 : w6.cell? ⟨w0.heap.size + 1, 3, none⟩ = some (.int .i64 t.s) := blk_cell h6 3
  have t4 : w6.cell? ⟨w0.heap.size + 1, 4, none⟩ = some (.slice ta t.of.length tc) := blk_cell h6 4
  have x2 : w6.cell? ⟨X, 2, none⟩ = some (.slice la LN lc) := blk_cell (k6.heap (fun x => x) H5.out.2.2.1) 2
  have H6 := Lib.hid (And.intro k6 (And.intro g6 h6))
  have OWN : Hid (∀ V, KB F0 w6 V → V.ownsRow w00.heap.size 26 5 (.slice la LN lc) LN us) := Lib.hid (fun V hV => by
   have h := ((H5.out.2.2.2.1).kb (k6.trans hV) (fun _ _ x => x)).row
   rw [HV.out.1, ← HV.out.2.2] at h
   exact h)
  have OWB : Hid (∀ k, (Value.slice la LN lc).ownBlock = some k → k ≠ w0.heap.size ∧ k ≠ w0.heap.size + 1 ∧ k ≠ X ∧ k ≠ mb) := Lib.hid (fun k hk => by
   have hk' : v.ownBlock = some k := by rw [HV.out.1, ← HV.out.2.2]; exact hk
   have h1 := (HH.out.1.list.row.lt k hk').2
   obtain ⟨c, h3, -⟩ := own_block HH.out.1.list.row hk'
   obtain ⟨D, ⟨es, clock, h4, -⟩, -⟩ := HH.out.1.map
   exact ⟨by omega, by omega, fun e => obj_ne h3 HH.out.1.cell (by decide) e, fun e => by rw [e, h4] at h3; cases h3⟩)
  have HX6 := Lib.hid (k6.heap (fun x => x) H5.out.2.2.1)
  have hX2 : ¬ X = w0.heap.size := fun e => obj_ne g6 (k6.heap (fun x => x) H5.out.2.2.1) (by decide) e.symm
  have hX3 : ¬ X = w0.heap.size + 1 := fun e => obj_ne h6 (k6.heap (fun x => x) H5.out.2.2.1) (by decide) e.symm
  clear k6 g6 h6
 ·have hb0 : w00.heap.size ≤ w6.heap.size := by
   have h1 := HH.out.1.kb.size
   have h2 := H5.out.1.size
   have h3 := H6.out.1.size
   omega
  have hlt0 : ∀ g, (Value.slice la LN lc).ownBlock = some g → g < w6.heap.size := fun g hg => ((OWN.out w6 (KB.refl _ _)).lt g hg).2
  have HLT := Lib.hid hlt0
  clear hlt0
  refine wp_region_rv 8 (A5.GA w00.heap.size 26 (.slice la LN lc) (LN + 1) (us ++ tyCs t ta tc)) (kindW [(6, OneRow w6.heap.size (tyCs t ta tc).toArray 26, OneRowAt w6.heap.size (tyCs t ta tc).toArray 26), (7, fun v => ∃ a c, v = .slice a (LN + 1) c, A5.FA w00.heap.size w6.heap.size 26 (.slice la LN lc) (LN + 1) (us ++ tyCs t ta tc))])
   (by kernel_rfl) (by kernel_rfl) A5.GA.trans A5.GA.refl (A5.GA.start _) (A5.kindW_monoG _ (by
    intro p hp; simp only [List.mem_cons, List.not_mem_nil, or_false] at hp
    rcases hp with rfl | rfl
    ·rintro v a b hG ⟨nb, h1, h2, h3⟩
     exact ⟨nb, h1, h2, hG.1.heap (fun e => by have := HLT.out nb e; omega) h3⟩
    ·intro v a b hG hf
     exact hf.lasts hG)) ?_
  simp only [pT, pU, pV, pW]
  iterate 2 (refine rv_det (by kernel_rfl) rfl (by intro w hG hH; have hc0 := KB.cell hG.1 (fun e => (OWB.out _ e).1 rfl) p0; go_simp; first | done | with_reducible rfl) ?_; simp only [Act.put, pA, pZ, pS])
  iterate 2 (refine rv_det (by kernel_rfl) rfl (by intro w hG hH; go_simp; first | done | with_reducible rfl) ?_; simp only [Act.put, pA, pZ, pS])
  refine rv_det (by kernel_rfl) rfl (by intro w hG hH; have hc0 := KB.cell hG.1 (fun e => (OWB.out _ e).2.2.1 rfl) x2; go_simp; first | done | with_reducible rfl) ?_
  simp only [Act.put, pA, pZ, pS]
  refine rv_det (by kernel_rfl) rfl (by intro w hG hH; have hc0 := KB.cell hG.1 (fun e => (OWB.out _ e).2.1 rfl) t0; have hc1 := KB.cell hG.1 (fun e => (OWB.out _ e).2.1 rfl) t1; have hc2 := KB.cell hG.1 (fun e => (OWB.out _ e).2.1 rfl) t2; have hc3 := KB.cell hG.1 (fun e => (OWB.out _ e).2.1 rfl) t3; have hc4 := KB.cell hG.1 (fun e => (OWB.out _ e).2.1 rfl) t4; go_simp; first | done | with_reducible rfl) ?_
  simp only [Act.put, pA, pZ, pS]
  refine rv_rel (by kernel_rfl) rfl ⟨.slice (some ⟨_, 0, none⟩) 1 1, _, rfl, Nat.le_refl _⟩ (fun w hG hH => opVal_value (v := .slice (some ⟨w.heap.size, 0, none⟩) 1 1) (w' := w.alloc (.cells (tyCs t ta tc).toArray 26)) (by go_simp; first | done | rfl)
   ⟨⟨_, rfl, hG.1.size⟩, A5.GA.kb ((KB.refl (fun _ => False) w).alloc _) (fun _ x => x) (fun g e => by have := HLT.out g e; have := hG.1.size; omega), ⟨_, rfl, hG.1.size, alloc_new w _⟩⟩) ?_
  rintro v ⟨nb, rfl, hnb4⟩
  simp only [Act.put, pA, pZ, pS]
  refine rv_rel (by kernel_rfl) rfl ⟨.slice none (LN + 1) 0, _, _, rfl⟩ (fun w hG hH => by
   obtain ⟨nb', e, -, hrow⟩ := hH (6, fun w => OneRowAt w6.heap.size (tyCs t ta tc).toArray 26 (.slice (some ⟨nb, 0, none⟩) 1 1) w) List.mem_cons_self (by kernel_rfl)
   simp only [Value.slice.injEq, Option.some.injEq, Addr.mk.injEq, and_true] at e
   subst e
   have hul := (OWN.out w6 (KB.refl _ _)).1
   have htk : (us ++ tyCs t ta tc).take (LN * 5) = us := by rw [← hul]; exact List.take_left
   have hold : w.ownsRow w00.heap.size 26 5 (.slice la LN lc) LN us := by
    have := A5.GA.old (m := LN) hG (by rw [htk]; exact OWN.out w6 (KB.refl _ _)) (by omega)
    rwa [htk] at this
   have hsw := hG.1.size
   refine A5.opVal_imp (A5.opVal_append (P := Tryz.prog) w00.heap.size w6.heap.size hsw (.tmp 65) (.tmp 67) 24 26 rfl Tryz.infoTy Tryz.underlying24' rfl (.slice la LN lc) LN us (by go_simp; first | done | rfl) hold nb 1 (tyCs t ta tc) rfl 26 (by go_simp; first | done | rfl) hrow (tyCs_one t ta tc) (by unfold maxLen; omega) (by omega) (by omega)) ?_
   rintro v w' ⟨h1, h2⟩
   obtain ⟨a1, c1, e, -⟩ := own_shape h1.1
   exact ⟨⟨a1, c1, e⟩, h2, h1⟩) ?_
  rintro v ⟨ga, gc, rfl⟩
  simp only [Act.put, pA, pZ, pS]
  refine rv_nil (fun w hG hH => ?_)
  have hFA : A5.FA w00.heap.size w6.heap.size 26 (.slice la LN lc) (LN + 1) (us ++ tyCs t ta tc) (.slice ga (LN + 1) gc) w := hH (7, fun w => A5.FA w00.heap.size w6.heap.size 26 (.slice la LN lc) (LN + 1) (us ++ tyCs t ta tc) (.slice ga (LN + 1) gc) w) List.mem_cons_self
  obtain ⟨w7, rfl⟩ : ∃ x, x = w := ⟨_, rfl⟩
  have x7 := hG.1.heap (b := X) (fun e => (OWB.out _ e).2.2.1 rfl) HX6.out
  have y2 : w7.cell? ⟨X, 2, none⟩ = some (.slice la LN lc) := blk_cell x7 2
  have f2 := blk_frozen x7 2
  obtain ⟨W9, hW9⟩ : ∃ W9, W9 = w7.setCell ⟨X, 2, none⟩ (.slice ga (LN + 1) gc) := ⟨_, rfl⟩
  have HT9 : Hid (KB (fun k => k = X ∨ (Value.slice la LN lc).ownBlock = some k) w5 W9 ∧ W9.heap[X]? = some (.cells #[.slice sa S.length sc, .map (some mb), .slice ga (LN + 1) gc] 109 (0, 0)) ∧ W9.ownsRow w00.heap.size 26 5 (.slice ga (LN + 1) gc) (LN + 1) (us ++ tyCs t ta tc) ∧ ∀ k, (Value.slice ga (LN + 1) gc).ownBlock = some k → (Value.slice la LN lc).ownBlock = some k ∨ w0.heap.size ≤ k) := by
   have ks := kb_set w7 X 2 (.slice ga (LN + 1) gc)
   rw [← hW9] at ks
   refine Lib.hid ⟨((H6.out.1.mono (fun _ _ x => x.elim)).trans (hG.1.mono (fun k _ e => Or.inr e))).trans (ks.mono (fun k _ e => Or.inl e)), by rw [hW9]; exact setCell_blk (i := 2) x7 _, own_kb hFA.1 ks (fun g e1 e2 => ?_), fun k hk => ?_⟩
   ·obtain ⟨c, h3, -⟩ := own_block hFA.1 e1
    exact obj_ne h3 x7 (by decide) e2
   ·rcases hFA.2 with e | e
    ·rw [e, A5.inPlace_block] at hk; exact Or.inl hk
    ·have h1 := (e k hk).2
     have h2 := H6.out.1.size
     have h3 := H5.out.1.size
     exact Or.inr (by omega)
  clear hFA hG hH x7 p0 t0 t1 t2 t3 t4 x2
  go_upto_region 10 with fail
  rw [← hW9]
  clear hW9
  have T9 : Hid (TabAt w00 S.length sa sc X mb (.slice ga (LN + 1) gc) (us ++ tyCs t ta tc) (L ++ [t]) W9 ∧ W9.heap[w0.heap.size]? = some (.cells #[.pointer (some ⟨X, 0, none⟩)] 104 (0, 0)) ∧ W9.heap[w0.heap.size + 1]? = some (.cells #[.int .u8 t.k, .bool t.m, .int .i64 t.r, .int .i64 t.s, .slice ta t.of.length tc] 26 (0, 0)) ∧ StepOk (TabP X mb) w0 W9) := by
   obtain ⟨h1, h2, h3, h4⟩ := HT9.out
   obtain ⟨m1, m2, m3, m4, m5, m6⟩ := H5.out
   have hT := HH.out.1
   have hX9 : X ≠ mb := fun e => by
    obtain ⟨D, ⟨es, clock, h1, -⟩, -⟩ := hT.map
    rw [← e, hT.cell] at h1
    cases h1
   have hown : ∀ k, (Value.slice la LN lc).ownBlock = some k → v.ownBlock = some k := fun k hk => by rw [HV.out.1, ← HV.out.2.2]; exact hk
   have n2 : ∀ k, (k = X ∨ (Value.slice la LN lc).ownBlock = some k) → k ≠ w0.heap.size ∧ k ≠ w0.heap.size + 1 ∧ k ≠ mb := fun k hk => by
    rcases hk with rfl | hk
    ·exact ⟨fun e => obj_ne m5 m3 (by decide) e.symm, fun e => obj_ne m6 m3 (by decide) e.symm, hX9⟩
    ·have := OWB.out k hk
     exact ⟨this.1, this.2.1, this.2.2.2⟩
   have kk : KB (fun k => k = mb ∨ k = X ∨ (Value.slice la LN lc).ownBlock = some k) w0 W9 := (m1.mono (fun k _ e => Or.inl e)).trans (h1.mono (fun k _ e => Or.inr e))
   refine Lib.hid ⟨⟨hT.kb.oldS kk (fun k hk e => ?_), hT.lo, hT.lom, h2, ?_, ?_⟩, h1.heap (fun e => (n2 _ e).1 rfl) m5, h1.heap (fun e => (n2 _ e).2.1 rfl) m6, kk.mono (fun k _ e => ?_), fun k hk => ?_⟩
   ·rcases e with rfl | rfl | e
    ·have := hT.lom; omega
    ·have := hT.lo; omega
    ·have := (hT.list.row.lt k (hown k e)).1; omega
   ·have := m2.kb h1 (fun e => (n2 _ e).2.2 rfl)
    rw [List.length_append, List.length_singleton]
    exact this
   ·exact m4.push HH.out.2.2.2.2.2.2.2.2.1 (by rw [← HV.out.2.2]; exact h3)
   ·rcases e with rfl | rfl | e
    ·exact Or.inr (Or.inl rfl)
    ·exact Or.inl rfl
    ·exact Or.inr (Or.inr ⟨_, _, _, hT.cell, hown k e⟩)
   ·rcases hk with rfl | rfl | ⟨c0, c1, u, e1, e2⟩
    ·exact Or.inl (Or.inl rfl)
    ·exact Or.inl (Or.inr (Or.inl rfl))
    ·rw [h2] at e1
     simp only [Option.some.injEq, Obj.cells.injEq, Array.mk.injEq, List.cons.injEq, and_true] at e1
     obtain ⟨rfl, rfl, rfl⟩ := e1
     rcases h4 k e2 with h5 | h5
     ·exact Or.inl (Or.inr (Or.inr ⟨_, _, _, hT.cell, hown k h5⟩))
     ·exact Or.inr h5
  have p0 : W9.cell? ⟨w0.heap.size, 0, none⟩ = some (.pointer (some ⟨X, 0, none⟩)) := blk_cell T9.out.2.1 0
  have t0 : W9.cell? ⟨w0.heap.size + 1, 0, none⟩ = some (.int .u8 t.k) := blk_cell T9.out.2.2.1 0
  have t1 : W9.cell? ⟨w0.heap.size + 1, 1, none⟩ = some (.bool t.m) := blk_cell T9.out.2.2.1 1
  have t2 : W9.cell? ⟨w0.heap.size + 1, 2, none⟩ = some (.int .i64 t.r) := blk_cell T9.out.2.2.1 2
  have t3 : W9.cell? ⟨w0.heap.size + 1, 3, none⟩ = some (.int .i64 t.s) := blk_cell T9.out.2.2.1 3
  have t4 : W9.cell? ⟨w0.heap.size + 1, 4, none⟩ = some (.slice ta t.of.length tc) := blk_cell T9.out.2.2.1 4
  have x0 : W9.cell? ⟨X, 0, none⟩ = some (.slice sa NS sc) := by rw [HNS.out]; exact blk_cell T9.out.1.cell 0
  have B2 := Lib.hid (fun (V : World) (hV : KB F0 W9 V) => lyboxes_any HH.out.2.2.2.2.2.2.2.2.2.1 sa sc w00 HH.out.2.2.2.2.2.2.2.2.2.2 93 #[.pointer (some ⟨w0.heap.size, 0, none⟩)] (TabP X mb) (MtInv w00 S sa sc X mb n w0.heap.size (L ++ [t])) (lyEn (fn := Tryz.f93) Tryz.func93 (by decide) (fun e => by cases e)) (mt_met w00 S sa sc X mb n w0.heap.size (L ++ [t]))
   (mt_step w00 S sa sc X mb n w0.heap.size (L ++ [t]) HH.out.2.2.2.2.2.2.2.2.2.1.len (by rw [List.length_append, List.length_singleton, ← HV.out.2.2]; omega) (by rw [List.length_append, List.length_singleton]; have := HLN.out.2; omega) IH.out) 34 t ta tc 0 [] V
   (HH.out.2.2.2.2.2.2.2.2.2.1.fin t) HH.out.2.2.2.2.2.2.2.1 (by have := HH.out.2.2.2.2.2.2.2.2.2.1.w16 34 t (HH.out.2.2.2.2.2.2.2.2.2.1.fin t) (look_inT HH.out.2.2.2.2.2.2.2.1); omega) (by have := HH.out.2.2.2.2.2.2.2.2.2.1.w16 34 t (HH.out.2.2.2.2.2.2.2.2.2.1.fin t) (look_inT HH.out.2.2.2.2.2.2.2.1); simp; omega) HH.out.2.2.2.2.2.2.2.2.1
   ⟨⟨_, _, T9.out.1.kbF hV⟩, HH.out.1.kb.size, hV.heap (fun x => x) T9.out.2.1⟩)
  rw [List.nil_append, ← HBX.out, ← HNS.out] at B2
  unfold tyV at B2
  refine wp_region_rv 6 GK (kindW []) (by kernel_rfl) (by kernel_rfl) (kb_trans _) (kb_refl _) (kb_start _ _) (kindW_mono _ (by intro p hp; cases hp)) ?_
  simp only [pT, pU, pV, pW]
  refine rv_det (by kernel_rfl) rfl (by intro w hG hH; have hc0 := kc hG (p0); go_simp; first | done | with_reducible rfl) ?_
  simp only [Act.put, pA, pZ, pS]
  iterate 2 (refine rv_det (by kernel_rfl) rfl (by intro w hG hH; go_simp; first | done | with_reducible rfl) ?_; simp only [Act.put, pA, pZ, pS])
  refine rv_det (by kernel_rfl) rfl (by intro w hG hH; have hc0 := kc hG (x0); go_simp; first | done | with_reducible rfl) ?_
  simp only [Act.put, pA, pZ, pS]
  refine rv_det (by kernel_rfl) rfl (by intro w hG hH; have hc0 := kc hG (t0); have hc1 := kc hG (t1); have hc2 := kc hG (t2); have hc3 := kc hG (t3); have hc4 := kc hG (t4); go_simp; first | done | with_reducible rfl) ?_
  simp only [Act.put, pA, pZ, pS]
  refine rv_det (by kernel_rfl) rfl (by intro w hG hH; go_simp; first | done | with_reducible rfl) ?_
  simp only [Act.put, pA, pZ, pS]
  refine rv_nil (fun w hG hH => ?_)
  have HG := Lib.hid hG
  clear hG hH p0 t0 t1 t2 t3 t4 x0
  go_wp2_with fail
  refine (B2.out _ HG.out).mono ?_
  rintro e w11 ⟨rfl, hi, hst⟩
  have HF : Hid (TabInv w00 S.length sa sc X mb (meetN S (n + 1) t L) w11 ∧ StepOk (TabP X mb) w0 w11) := by
   refine Lib.hid ⟨?_, (T9.out.2.2.2.trans ((mt_met w00 S sa sc X mb n w0.heap.size (L ++ [t])).step (L := []) ⟨⟨_, _, T9.out.1⟩, HH.out.1.kb.size, T9.out.2.1⟩ HG.out).2).trans hst⟩
   have e : meetN S (n + 1) t L = meetL (meetN S n) bx (L ++ [t]) := by
    have h1 : ¬ (bx.length = 0 ∨ (idxF L (keyB t)).isSome = true ∨ 4096 < L.length) := by
     rw [← HGB.out, ← HV.out.2.2]
     rintro (h | h | h)
     ·have := HBE.out
      rw [List.eq_nil_of_length_eq_zero h] at this
      cases this
     ·cases h
     ·exact h40 h
    rw [HBX.out] at h1 ⊢
    show (if _ then _ else _) = _
    rw [if_neg h1]
   rw [e]
   exact hi.1
  clear hi hst B2
  go_wp2_with fail
  go_end0
  exact ⟨rfl, HF.out.1, HF.out.2⟩
 ·skip
  refine wp_region_rv 7 GK (kindW [(6, RowN w6.heap.size 1, RowNAt w6.heap.size 1 #[.int .u8 0, .bool false, .int .i64 0, .int .i64 0, .slice none 0 0] 26)]) (by kernel_rfl) (by kernel_rfl) (kb_trans _) (kb_refl _) (kb_start _ _) (kindW_mono _ (by intro p hp; simp only [List.mem_cons, List.not_mem_nil, or_false] at hp; rcases hp with rfl <;> exact lasts_rowN _ _ _ _)) ?_
  simp only [pT, pU, pV, pW]
  refine rv_det (by kernel_rfl) rfl (by intro w hG hH; have hc0 := kc hG (p0); go_simp; first | done | with_reducible rfl) ?_
  simp only [Act.put, pA, pZ, pS]
  iterate 2 (refine rv_det (by kernel_rfl) rfl (by intro w hG hH; go_simp; first | done | with_reducible rfl) ?_; simp only [Act.put, pA, pZ, pS])
  refine rv_det (by kernel_rfl) rfl (by intro w hG hH; have hc0 := kc hG (x2); go_simp; first | done | with_reducible rfl) ?_
  simp only [Act.put, pA, pZ, pS]
  refine rv_det (by kernel_rfl) rfl (by intro w hG hH; have hc0 := kc hG (t0); have hc1 := kc hG (t1); have hc2 := kc hG (t2); have hc3 := kc hG (t3); have hc4 := kc hG (t4); go_simp; first | done | with_reducible rfl) ?_
  simp only [Act.put, pA, pZ, pS]
  refine rv_det (by kernel_rfl) rfl (by intro w hG hH; go_simp; first | done | with_reducible rfl) ?_
  simp only [Act.put, pA, pZ, pS]
  refine rv_rel (by kernel_rfl) rfl (rowN_ex _ _) (fun w hG hH => opVal_rowN hG (by go_simp; first | done | rfl)) ?_
  rintro v ⟨nb, rfl, hnb⟩
  simp only [Act.put, pA, pZ, pS]
  refine rv_nil (fun w hG hH => ?_)
  obtain ⟨nb', e1, e2, e3⟩ := hH _ (List.mem_cons_self ..)
  cases e1
  obtain ⟨w7, rfl⟩ : ∃ x, x = w := ⟨_, rfl⟩
  have H7 := Lib.hid (And.intro (H6.out.1.trans hG) (And.intro hG e3))
  clear hH hG e2 e3 hnb p0 t0 t1 t2 t3 t4 x2
  go_wp2_with (at_builtin; refine Stopped.out ?_)
  refine ⟨?_⟩
  refine list_appT rfl (.tmp 53) (.tmp 56) rfl w00.heap.size (.slice la LN lc) LN us rfl (OWN.out w7 H7.out.2.1) nb 1 [.int .u8 0, .bool false, .int .i64 0, .int .i64 0, .slice none 0 0] rfl rfl H7.out.2.2 (by intro u hu; simp only [List.mem_cons, List.not_mem_nil, or_false] at hu; rcases hu with rfl | rfl | rfl | rfl | rfl <;> rfl) (by omega) (by have h1 := HH.out.1.kb.size; have h2 := H5.out.1.size; have h3 := H7.out.1.size; omega) ?_
  intro g cap w8 r8 k8 a8
  have x8 := k8.heap (b := X) (fun e => (OWB.out _ e).2.2.1 rfl) (H7.out.2.1.heap (fun x => x) HX6.out)
  have y2 : w8.cell? ⟨X, 2, none⟩ = some (.slice la LN lc) := blk_cell x8 2
  have f2 := blk_frozen x8 2
  have H8 := Lib.hid (And.intro r8 (And.intro k8 (And.intro a8 x8)))
  clear r8 k8 a8 x8
  go_upto_region 8 with fail
  obtain ⟨w9, hw9⟩ : ∃ w9, w9 = w8.setCell ⟨X, 2, none⟩ (.slice (some ⟨g, 0, none⟩) (LN + 1) cap) := ⟨_, rfl⟩
  rw [← hw9]
  have ks := kb_set w8 X 2 (.slice (some ⟨g, 0, none⟩) (LN + 1) cap)
  rw [← hw9] at ks
  have hgX : ¬ g = X := fun e => by
   obtain ⟨c, h3, -⟩ := own_block H8.out.1 (g := g) rfl
   exact obj_ne h3 H8.out.2.2.2 (by decide) e
  have r9 := own_kb H8.out.1 ks (fun g' e1 e2 => by simp only [Value.ownBlock, Option.some.injEq] at e1; exact hgX (e1.trans e2))
  have x9 : w9.heap[X]? = some (.cells #[.slice sa S.length sc, .map (some mb), .slice (some ⟨g, 0, none⟩) (LN + 1) cap] 109 (0, 0)) := by rw [hw9]; exact setCell_blk (i := 2) H8.out.2.2.2 _
  have hul : us.length = LN * 5 := (OWN.out w6 (KB.refl _ _)).1
  have q0 : w9.cell? ⟨g, LN * 5, none⟩ = some (.int .u8 0) := by rw [r9.cellAt _ (by omega), List.getElem?_append_right (by omega), hul, Nat.sub_self]; rfl
  have q1 : w9.cell? ⟨g, LN * 5 + 1, none⟩ = some (.bool false) := by rw [r9.cellAt _ (by omega), List.getElem?_append_right (by omega), hul, Nat.add_sub_cancel_left]; rfl
  have q2 : w9.cell? ⟨g, LN * 5 + 2, none⟩ = some (.int .i64 0) := by rw [r9.cellAt _ (by omega), List.getElem?_append_right (by omega), hul, Nat.add_sub_cancel_left]; rfl
  have q3 : w9.cell? ⟨g, LN * 5 + 3, none⟩ = some (.int .i64 0) := by rw [r9.cellAt _ (by omega), List.getElem?_append_right (by omega), hul, Nat.add_sub_cancel_left]; rfl
  have q4 : w9.cell? ⟨g, LN * 5 + 4, none⟩ = some (.slice none 0 0) := by rw [r9.cellAt _ (by omega), List.getElem?_append_right (by omega), hul, Nat.add_sub_cancel_left]; rfl
  have z0 := r9.frozenAt (LN * 5)
  have z1 := r9.frozenAt (LN * 5 + 1)
  have z2 := r9.frozenAt (LN * 5 + 2)
  have z3 := r9.frozenAt (LN * 5 + 3)
  have z4 := r9.frozenAt (LN * 5 + 4)
  have i1 : (LN : Int) < ((LN + 1 : Nat) : Int) := by omega
  have i2 : LN < LN + 1 := by omega
  have HR9 := Lib.hid (And.intro r9 (And.intro x9 (And.intro hul (And.intro hgX ks))))
  clear hw9 ks r9 x9 hul y2 f2
  go_upto_region 10 with fail
  obtain ⟨W9, hW9⟩ : ∃ W9, W9 = ((((w9.setCell ⟨g, LN * 5, none⟩ (.int .u8 t.k)).setCell ⟨g, LN * 5 + 1, none⟩ (.bool t.m)).setCell ⟨g, LN * 5 + 2, none⟩ (.int .i64 t.r)).setCell ⟨g, LN * 5 + 3, none⟩ (.int .i64 t.s)).setCell ⟨g, LN * 5 + 4, none⟩ (.slice ta t.of.length tc) := ⟨_, rfl⟩
  rw [← hW9]
  have HT9 : Hid (KB (fun k => k = X ∨ (Value.slice la LN lc).ownBlock = some k) w5 W9 ∧ W9.heap[X]? = some (.cells #[.slice sa S.length sc, .map (some mb), .slice (some ⟨g, 0, none⟩) (LN + 1) cap] 109 (0, 0)) ∧ W9.ownsRow w00.heap.size 26 5 (.slice (some ⟨g, 0, none⟩) (LN + 1) cap) (LN + 1) (us ++ tyCs t ta tc) ∧ ∀ k, (Value.slice (some ⟨g, 0, none⟩) (LN + 1) cap).ownBlock = some k → (Value.slice la LN lc).ownBlock = some k ∨ w0.heap.size ≤ k) := by
   obtain ⟨r9, x9, hul, hgX, ks⟩ := HR9.out
   have k5 := ((((kb_set w9 g (LN * 5) (.int .u8 t.k)).trans (kb_set _ g (LN * 5 + 1) (.bool t.m))).trans (kb_set _ g (LN * 5 + 2) (.int .i64 t.r))).trans (kb_set _ g (LN * 5 + 3) (.int .i64 t.s))).trans (kb_set _ g (LN * 5 + 4) (.slice ta t.of.length tc))
   rw [← hW9] at k5
   have hr := (((((r9.stored (LN * 5) (.int .u8 t.k)).1.stored (LN * 5 + 1) (.bool t.m)).1.stored (LN * 5 + 2) (.int .i64 t.r)).1.stored (LN * 5 + 3) (.int .i64 t.s)).1.stored (LN * 5 + 4) (.slice ta t.of.length tc)).1
   rw [← hW9, set_app5 us _ _ _ _ _ _ _ _ _ _ hul] at hr
   have hs5 := H5.out.1.size
   have hs7 := H7.out.1.size
   have hgo : (Value.slice la LN lc).ownBlock = some g ∨ w5.heap.size ≤ g := by
    rcases H8.out.2.2.1 with h | h
    ·exact Or.inl h
    ·exact Or.inr (by omega)
   have k58 : KB (fun k => (Value.slice la LN lc).ownBlock = some k) w5 w8 := (H7.out.1.mono (fun _ _ x => x.elim)).trans H8.out.2.1
   refine Lib.hid ⟨?_, k5.heap (fun e => hgX e.symm) x9, hr, fun k hk => ?_⟩
   ·refine ((k58.mono (fun k _ e => Or.inr e)).trans (ks.mono (fun k _ e => Or.inl e))).old2 k5 (fun k hk e => ?_)
    subst e
    rcases hgo with h | h
    ·exact Or.inr h
    ·omega
   ·simp only [Value.ownBlock, Option.some.injEq] at hk
    subst hk
    rcases hgo with h | h
    ·exact Or.inl h
    ·exact Or.inr (by omega)
  clear hW9 q0 q1 q2 q3 q4 z0 z1 z2 z3 z4 i1 i2
  have T9 : Hid (TabAt w00 S.length sa sc X mb (.slice (some ⟨g, 0, none⟩) (LN + 1) cap) (us ++ tyCs t ta tc) (L ++ [t]) W9 ∧ W9.heap[w0.heap.size]? = some (.cells #[.pointer (some ⟨X, 0, none⟩)] 104 (0, 0)) ∧ W9.heap[w0.heap.size + 1]? = some (.cells #[.int .u8 t.k, .bool t.m, .int .i64 t.r, .int .i64 t.s, .slice ta t.of.length tc] 26 (0, 0)) ∧ StepOk (TabP X mb) w0 W9) := by
   obtain ⟨h1, h2, h3, h4⟩ := HT9.out
   obtain ⟨m1, m2, m3, m4, m5, m6⟩ := H5.out
   have hT := HH.out.1
   have hX9 : X ≠ mb := fun e => by
    obtain ⟨D, ⟨es, clock, h1, -⟩, -⟩ := hT.map
    rw [← e, hT.cell] at h1
    cases h1
   have hown : ∀ k, (Value.slice la LN lc).ownBlock = some k → v.ownBlock = some k := fun k hk => by rw [HV.out.1, ← HV.out.2.2]; exact hk
   have n2 : ∀ k, (k = X ∨ (Value.slice la LN lc).ownBlock = some k) → k ≠ w0.heap.size ∧ k ≠ w0.heap.size + 1 ∧ k ≠ mb := fun k hk => by
    rcases hk with rfl | hk
    ·exact ⟨fun e => obj_ne m5 m3 (by decide) e.symm, fun e => obj_ne m6 m3 (by decide) e.symm, hX9⟩
    ·have := OWB.out k hk
     exact ⟨this.1, this.2.1, this.2.2.2⟩
   have kk : KB (fun k => k = mb ∨ k = X ∨ (Value.slice la LN lc).ownBlock = some k) w0 W9 := (m1.mono (fun k _ e => Or.inl e)).trans (h1.mono (fun k _ e => Or.inr e))
   refine Lib.hid ⟨⟨hT.kb.oldS kk (fun k hk e => ?_), hT.lo, hT.lom, h2, ?_, ?_⟩, h1.heap (fun e => (n2 _ e).1 rfl) m5, h1.heap (fun e => (n2 _ e).2.1 rfl) m6, kk.mono (fun k _ e => ?_), fun k hk => ?_⟩
   ·rcases e with rfl | rfl | e
    ·have := hT.lom; omega
    ·have := hT.lo; omega
    ·have := (hT.list.row.lt k (hown k e)).1; omega
   ·have := m2.kb h1 (fun e => (n2 _ e).2.2 rfl)
    rw [List.length_append, List.length_singleton]
    exact this
   ·exact m4.push HH.out.2.2.2.2.2.2.2.2.1 (by rw [← HV.out.2.2]; exact h3)
   ·rcases e with rfl | rfl | e
    ·exact Or.inr (Or.inl rfl)
    ·exact Or.inl rfl
    ·exact Or.inr (Or.inr ⟨_, _, _, hT.cell, hown k e⟩)
   ·rcases hk with rfl | rfl | ⟨c0, c1, u, e1, e2⟩
    ·exact Or.inl (Or.inl rfl)
    ·exact Or.inl (Or.inr (Or.inl rfl))
    ·rw [h2] at e1
     simp only [Option.some.injEq, Obj.cells.injEq, Array.mk.injEq, List.cons.injEq, and_true] at e1
     obtain ⟨rfl, rfl, rfl⟩ := e1
     rcases h4 k e2 with h5 | h5
     ·exact Or.inl (Or.inr (Or.inr ⟨_, _, _, hT.cell, hown k h5⟩))
     ·exact Or.inr h5
  have p0 : W9.cell? ⟨w0.heap.size, 0, none⟩ = some (.pointer (some ⟨X, 0, none⟩)) := blk_cell T9.out.2.1 0
  have t0 : W9.cell? ⟨w0.heap.size + 1, 0, none⟩ = some (.int .u8 t.k) := blk_cell T9.out.2.2.1 0
  have t1 : W9.cell? ⟨w0.heap.size + 1, 1, none⟩ = some (.bool t.m) := blk_cell T9.out.2.2.1 1
  have t2 : W9.cell? ⟨w0.heap.size + 1, 2, none⟩ = some (.int .i64 t.r) := blk_cell T9.out.2.2.1 2
  have t3 : W9.cell? ⟨w0.heap.size + 1, 3, none⟩ = some (.int .i64 t.s) := blk_cell T9.out.2.2.1 3
  have t4 : W9.cell? ⟨w0.heap.size + 1, 4, none⟩ = some (.slice ta t.of.length tc) := blk_cell T9.out.2.2.1 4
  have x0 : W9.cell? ⟨X, 0, none⟩ = some (.slice sa NS sc) := by rw [HNS.out]; exact blk_cell T9.out.1.cell 0
  have B2 := Lib.hid (fun (V : World) (hV : KB F0 W9 V) => lyboxes_any HH.out.2.2.2.2.2.2.2.2.2.1 sa sc w00 HH.out.2.2.2.2.2.2.2.2.2.2 93 #[.pointer (some ⟨w0.heap.size, 0, none⟩)] (TabP X mb) (MtInv w00 S sa sc X mb n w0.heap.size (L ++ [t])) (lyEn (fn := Tryz.f93) Tryz.func93 (by decide) (fun e => by cases e)) (mt_met w00 S sa sc X mb n w0.heap.size (L ++ [t]))
   (mt_step w00 S sa sc X mb n w0.heap.size (L ++ [t]) HH.out.2.2.2.2.2.2.2.2.2.1.len (by rw [List.length_append, List.length_singleton, ← HV.out.2.2]; omega) (by rw [List.length_append, List.length_singleton]; have := HLN.out.2; omega) IH.out) 34 t ta tc 0 [] V
   (HH.out.2.2.2.2.2.2.2.2.2.1.fin t) HH.out.2.2.2.2.2.2.2.1 (by have := HH.out.2.2.2.2.2.2.2.2.2.1.w16 34 t (HH.out.2.2.2.2.2.2.2.2.2.1.fin t) (look_inT HH.out.2.2.2.2.2.2.2.1); omega) (by have := HH.out.2.2.2.2.2.2.2.2.2.1.w16 34 t (HH.out.2.2.2.2.2.2.2.2.2.1.fin t) (look_inT HH.out.2.2.2.2.2.2.2.1); simp; omega) HH.out.2.2.2.2.2.2.2.2.1
   ⟨⟨_, _, T9.out.1.kbF hV⟩, HH.out.1.kb.size, hV.heap (fun x => x) T9.out.2.1⟩)
  rw [List.nil_append, ← HBX.out, ← HNS.out] at B2
  unfold tyV at B2
  refine wp_region_rv 6 GK (kindW []) (by kernel_rfl) (by kernel_rfl) (kb_trans _) (kb_refl _) (kb_start _ _) (kindW_mono _ (by intro p hp; cases hp)) ?_
  simp only [pT, pU, pV, pW]
  refine rv_det (by kernel_rfl) rfl (by intro w hG hH; have hc0 := kc hG (p0); go_simp; first | done | with_reducible rfl) ?_
  simp only [Act.put, pA, pZ, pS]
  iterate 2 (refine rv_det (by kernel_rfl) rfl (by intro w hG hH; go_simp; first | done | with_reducible rfl) ?_; simp only [Act.put, pA, pZ, pS])
  refine rv_det (by kernel_rfl) rfl (by intro w hG hH; have hc0 := kc hG (x0); go_simp; first | done | with_reducible rfl) ?_
  simp only [Act.put, pA, pZ, pS]
  refine rv_det (by kernel_rfl) rfl (by intro w hG hH; have hc0 := kc hG (t0); have hc1 := kc hG (t1); have hc2 := kc hG (t2); have hc3 := kc hG (t3); have hc4 := kc hG (t4); go_simp; first | done | with_reducible rfl) ?_
  simp only [Act.put, pA, pZ, pS]
  refine rv_det (by kernel_rfl) rfl (by intro w hG hH; go_simp; first | done | with_reducible rfl) ?_
  simp only [Act.put, pA, pZ, pS]
  refine rv_nil (fun w hG hH => ?_)
  have HG := Lib.hid hG
  clear hG hH p0 t0 t1 t2 t3 t4 x0
  go_wp2_with fail
  refine (B2.out _ HG.out).mono ?_
  rintro e w11 ⟨rfl, hi, hst⟩
  have HF : Hid (TabInv w00 S.length sa sc X mb (meetN S (n + 1) t L) w11 ∧ StepOk (TabP X mb) w0 w11) := by
   refine Lib.hid ⟨?_, (T9.out.2.2.2.trans ((mt_met w00 S sa sc X mb n w0.heap.size (L ++ [t])).step (L := []) ⟨⟨_, _, T9.out.1⟩, HH.out.1.kb.size, T9.out.2.1⟩ HG.out).2).trans hst⟩
   have e : meetN S (n + 1) t L = meetL (meetN S n) bx (L ++ [t]) := by
    have h1 : ¬ (bx.length = 0 ∨ (idxF L (keyB t)).isSome = true ∨ 4096 < L.length) := by
     rw [← HGB.out, ← HV.out.2.2]
     rintro (h | h | h)
     ·have := HBE.out
      rw [List.eq_nil_of_length_eq_zero h] at this
      cases this
     ·cases h
     ·exact h40 h
    rw [HBX.out] at h1 ⊢
    show (if _ then _ else _) = _
    rw [if_neg h1]
   rw [e]
   exact hi.1
  clear hi hst B2
  go_wp2_with fail
  go_end0
  exact ⟨rfl, HF.out.1, HF.out.2⟩
theorem meet_any (w00 : World) (S : List (List Ty)) (hg : GoodS S) (sa : Option Addr) (sc : Nat) (hS : StsAt 49 w00 sa S) (X mb : Nat) : ∀ (n : Nat) (t : Ty) (ta : Option Addr) (tc : Nat) (L : List Ty) (w : World), lookB S.length 48 t = true → TyAt 49 w00 t ta tc → TabInv w00 S.length sa sc X mb L w → L.length ≤ 4097 → 4098 ≤ n + L.length →
  Calls Tryz.prog 78 #[.pointer (some ⟨X, 0, none⟩), tyV t ta tc] w (MtEnd w00 S sa sc X mb n t L w) := by
 intro n
 induction n with
 | zero => intro t ta tc L w _ _ _ h1 h2; omega
 | succ n ih => intro t ta tc L w hlk ht hT hL hn; exact meet_step w00 S hg sa sc hS X mb n ih t ta tc L w hlk ht hT hL hn
end Go.Proofs.YtaeppaaolkcbbaaGreatDoor

/- types.Anew with no regions; types.Text; layout.text. layout.text. A map of the call's own: texts to numbers. -/
import Derived.Test.YtaeppaaolkcbbaaGreatDoorMg13
import Derived.Test.YtaeppaaolkcbbaaGreatDoorMg28
import Derived.Test.YtaeppaaolkcbbaaGreatDoorMg02
import Derived.Maps.OwnOps
import Derived.Maps.Views
import Derived.StringKeys
namespace Go.Proofs.YtaeppaaolkcbbaaGreatDoor
open Go.RowKit

theorem deep_look1 {S : Nat} : ∀ {n : Nat} {t : Ty}, lookB S (n + 1) t = true → deepT n t = true := by
 intro n
 induction n with
 | zero =>
  intro t h
  rw [lookB_succ, look_zero, Bool.and_false] at h
  unfold deepT
  unfold lookV at h
  split at h
  ·simp at h; simp [h.2.2]
  ·split at h
   ·simp at h; simp [h.2.1]
   ·split at h
    ·simp at h
    ·split at h
     ·simp at h
     ·cases h
 | succ n ih =>
  intro t h
  have hd := deep_look h
  unfold deepT at hd ⊢
  simp only [Bool.or_eq_true, Bool.and_eq_true, decide_eq_true_eq] at hd ⊢
  rcases hd with hd | ⟨h1, -⟩
  ·exact Or.inl hd
  ·refine Or.inr ⟨h1, ?_⟩
   rw [lookB_succ, decide_eq_true h1, Bool.true_and] at h
   cases hq : lookB S (n + 1) (in0 t) with
   | true => exact ih hq
   | false =>
    rw [hq] at h
    unfold lookV at h
    simp [h1] at h
theorem ty_less : ∀ {n : Nat} {w : World} {t : Ty} {a : Option Addr} {c : Nat}, TyAt (n + 1) w t a c → TyAt n w t a c := by
 intro n
 induction n with
 | zero => intro w t a c _; trivial
 | succ n ih =>
  intro w t a c h
  refine ⟨h.1, fun i hi => ?_⟩
  obtain ⟨b, o, a', c', e, h1, h2⟩ := h.2 i hi
  exact ⟨b, o, a', c', e, h1, ih h2⟩
theorem regsF_le : ∀ (n : Nat) (t : Ty), (regsF n t).length ≤ n := by
 intro n
 induction n with
 | zero => intro t; exact Nat.le_refl _
 | succ n ih =>
  intro t
  have h := ih (in0 t)
  unfold regsF
  rw [List.length_append]
  split <;> split <;> simp <;> omega
theorem ints_rep {w : World} {G N : Nat} (h : w.heap[G]? = some (.cells (repC (-1) N N).toArray 3 (0, 0))) : IntsAt w (some ⟨G, 0, none⟩) (List.replicate N (-1)) := fun k hk => by
 rw [List.length_replicate] at hk
 refine ⟨G, 0, rfl, ?_⟩
 rw [blk_cell h, Nat.zero_add, repC_at hk, List.getD_eq_getElem?_getD, List.getElem?_replicate, if_pos hk]
 rfl
set_option maxRecDepth 100000 in
set_option maxHeartbeats 8000000 in
theorem anew1_any (x : Int) (w : World) : Calls Tryz.prog 111 #[.int .i64 x] w fun e w' => e = .returned (.bool (decide (x < -1))) ∧ KB F0 w w' := by
 obtain ⟨w0, rfl⟩ : ∃ w0, w0 = w := ⟨_, rfl⟩
 go_enter Tryz.func111, Tryz.ntmps111
 go_wp2_with fail
 go_ret
 exact ⟨rfl, KB.refl _ _⟩
theorem ret_ty2 {fn : Func} {R : Ending → World → Prop} {a : Act} {w : World} {p q X : Nat} {k : Int} {m : Bool} {r s : Int} {v z : Value} (h : fn.results = #[.cell p 26, .tmp q]) (hp : a.tmps.getD p undef = .pointer (some ⟨X, 0, none⟩)) (hq : a.tmps.getD q undef = z)
  (hc : w.heap[X]? = some (.cells #[.int .u8 k, .bool m, .int .i64 r, .int .i64 s, v] 26 (0, 0))) (hd : a.defers = []) (hR : R (.returned (.tuple #[.agg #[.int .u8 k, .bool m, .int .i64 r, .int .i64 s, v], z])) w) : bodyPost Tryz.prog fn R .ret a w := by
 refine bodyPost_ret (v := .tuple #[.agg #[.int .u8 k, .bool m, .int .i64 r, .int .i64 s, v], z]) ?_ hd hR
 have hp' : a.tmps[p]?.getD undef = .pointer (some ⟨X, 0, none⟩) := by simpa using hp
 have hq' : a.tmps[q]?.getD undef = z := by simpa using hq
 have c0 : w.cell? ⟨X, 0, none⟩ = some (.int .u8 k) := blk_cell hc 0
 have c1 : w.cell? ⟨X, 1, none⟩ = some (.bool m) := blk_cell hc 1
 have c2 : w.cell? ⟨X, 2, none⟩ = some (.int .i64 r) := blk_cell hc 2
 have c3 : w.cell? ⟨X, 3, none⟩ = some (.int .i64 s) := blk_cell hc 3
 have c4 : w.cell? ⟨X, 4, none⟩ = some v := blk_cell hc 4
 simp only [results, h]
 go_simp
def AnwEnd (t : Ty) (w : World) (e : Ending) (w' : World) : Prop := KB F0 w w' ∧ ∃ ga gc, e = .returned (.tuple #[tyV (bareF 48 t) ga gc, .int .i64 0]) ∧ OwnT 47 w' w.heap.size (bareF 48 t) ga gc
set_option maxRecDepth 100000 in
set_option maxHeartbeats 32000000 in
theorem anew_any (t : Ty) (ta : Option Addr) (tc : Nat) (G N : Nat) (w : World) (hlk : lookB 32 48 t = true) (ht : TyAt 49 w t ta tc) (hG : w.heap[G]? = some (.cells (repC (-1) N N).toArray 3 (0, 0))) (hN : (regsF 48 t).length = N) :
  Calls Tryz.prog 95 #[tyV t ta tc, .slice (some ⟨G, 0, none⟩) N N] w (AnwEnd t w) := by
 obtain ⟨w0, rfl⟩ : ∃ w0, w0 = w := ⟨_, rfl⟩
 have hNb : N ≤ 1000000 := by rw [← hN]; exact Nat.le_trans (regsF_le 48 t) (by omega)
 obtain ⟨W, hW⟩ : ∃ W, W = ((w0.alloc (.cells #[.int .u8 t.k, .bool t.m, .int .i64 t.r, .int .i64 t.s, .slice ta t.of.length tc] 26)).alloc (.cells #[.slice (some ⟨G, 0, none⟩) N N] 40)).alloc (.cells #[.int .u8 0, .bool false, .int .i64 0, .int .i64 0, .slice none 0 0] 26) := ⟨_, rfl⟩
 obtain ⟨hk, hb1, hb2, hb3⟩ := new3 w0 #[.int .u8 t.k, .bool t.m, .int .i64 t.r, .int .i64 t.s, .slice ta t.of.length tc] #[.slice (some ⟨G, 0, none⟩) N N] #[.int .u8 0, .bool false, .int .i64 0, .int .i64 0, .slice none 0 0] 26 40 26
 rw [← hW] at hk hb1 hb2 hb3
 have hsz : W.heap.size = w0.heap.size + 3 := by rw [hW]; simp
 have a0 : W.cell? ⟨w0.heap.size, 0, none⟩ = some (.int .u8 t.k) := blk_cell hb1 0
 have a1 : W.cell? ⟨w0.heap.size, 1, none⟩ = some (.bool t.m) := blk_cell hb1 1
 have a2 : W.cell? ⟨w0.heap.size, 2, none⟩ = some (.int .i64 t.r) := blk_cell hb1 2
 have a3 : W.cell? ⟨w0.heap.size, 3, none⟩ = some (.int .i64 t.s) := blk_cell hb1 3
 have a4 : W.cell? ⟨w0.heap.size, 4, none⟩ = some (.slice ta t.of.length tc) := blk_cell hb1 4
 have s0 : W.cell? ⟨w0.heap.size + 1, 0, none⟩ = some (.slice (some ⟨G, 0, none⟩) N N) := blk_cell hb2 0
 have MY := Lib.hid (fun (V : World) (hV : KB F0 W V) => tymay_any t ta tc V (ht.kbF (hk.trans hV)))
 rw [hlk] at MY
 have RG := Lib.hid (fun (V : World) (hV : KB F0 W V) => tyRegions_any t ta tc V (ht.kbF (hk.trans hV)))
 rw [if_pos hlk, hN] at RG
 have CF := Lib.hid (fun (V : World) (hV : KB F0 W V) => ctIntsF_any 111 #[] (lyEn (fn := Tryz.f111) Tryz.func111 (by decide) (fun e => by cases e)) (fun x => decide (x < -1)) (List.replicate N (-1)) (by rw [List.length_replicate]; exact hNb) (some ⟨G, 0, none⟩) N V (fun x V' _ => anew1_any x V') (ints_rep ((hk.trans hV).heap (fun x => x) hG)))
 rw [List.length_replicate, show (List.replicate N (-1 : Int)).any (fun x => decide (x < -1)) = false by rw [List.any_eq_false]; intro x hx; rw [List.eq_of_mem_replicate hx]; decide] at CF
 have OW := Lib.hid (fun (V : World) (hV : KB F0 W V) => own_anyU 47 t ta tc V (deep_look1 hlk) (ty_less (ht.kbF (hk.trans hV))))
 unfold tyV at MY RG OW ⊢
 have HB := Lib.hid (And.intro hk (And.intro hb1 (And.intro hb2 (And.intro hb3 (And.intro hG (And.intro hN (And.intro hsz (And.intro (deep_look1 hlk) hNb))))))))
 have HW := Lib.hid hW
 clear hk hb1 hb2 hb3 hW hlk ht hG hN hsz
 go_enter Tryz.func95, Tryz.ntmps95
 go_upto_region 1 with fail
 rw [← HW.out]
 refine wp_region_rv 15 GK (kindW [(1, (fun v => v = .bool true), (fun _ _ => True)), (5, RegV N, (fun _ _ => True)), (13, (fun v => v = .bool false), (fun _ _ => True))]) (by kernel_rfl) (by kernel_rfl) (kb_trans _) (kb_refl _) (kb_start _ _) (kindW_mono _ (by intro p hp; simp only [List.mem_cons, List.not_mem_nil, or_false] at hp; rcases hp with rfl | rfl | rfl <;> exact lasts_true)) ?_
 simp only [pT, pU, pV, pW]
 refine rv_det (by kernel_rfl) rfl (by intro w hG hH; have hc0 := kc hG (a0); have hc1 := kc hG (a1); have hc2 := kc hG (a2); have hc3 := kc hG (a3); have hc4 := kc hG (a4); go_simp; first | done | with_reducible rfl) ?_
 simp only [Act.put, pA, pZ, pS]
 refine rv_rel (by kernel_rfl) rfl ⟨_, rfl⟩ (by
  intro w hG hH
  refine opVal_call (by go_simp; first | done | exact ⟨⟨rfl, rfl⟩, rfl⟩) ?_
  refine (MY.out _ hG).mono ?_
  rintro e w' ⟨rfl, hq⟩
  exact ⟨_, rfl, rfl, by first | (obtain ⟨nq, rfl⟩ := hq; exact (KB.refl _ _).drewN _) | (subst hq; exact KB.refl _ _) | exact hq, trivial⟩) ?_
 rintro v rfl
 simp only [Act.put, pA, pZ, pS]
 iterate 2 (refine rv_det (by kernel_rfl) rfl (by intro w hG hH; go_simp; first | done | with_reducible rfl) ?_; simp only [Act.put, pA, pZ, pS])
 refine rv_det (by kernel_rfl) rfl (by intro w hG hH; have hc0 := kc hG (a0); have hc1 := kc hG (a1); have hc2 := kc hG (a2); have hc3 := kc hG (a3); have hc4 := kc hG (a4); go_simp; first | done | with_reducible rfl) ?_
 simp only [Act.put, pA, pZ, pS]
 refine rv_rel (by kernel_rfl) rfl ⟨_, none, 0, rfl⟩ (by
  intro w hG hH
  refine opVal_call (by go_simp; first | done | exact ⟨⟨rfl, rfl⟩, rfl⟩) ?_
  refine (RG.out _ hG).mono ?_
  rintro e w' ⟨v, rfl, hown, hk⟩
  obtain ⟨a, c, h1, -⟩ := own_shape hown
  exact ⟨_, rfl, ⟨a, c, h1⟩, hk, trivial⟩) ?_
 rintro v ⟨ga, gc, rfl⟩
 simp only [Act.put, pA, pZ, pS]
 refine rv_det (by kernel_rfl) rfl (by intro w hG hH; go_simp; first | done | with_reducible rfl) ?_
 simp only [Act.put, pA, pZ, pS]
 refine rv_det (by kernel_rfl) rfl (by intro w hG hH; have hc0 := kc hG (s0); go_simp; first | done | with_reducible rfl) ?_
 simp only [Act.put, pA, pZ, pS]
 iterate 4 (refine rv_det (by kernel_rfl) rfl (by intro w hG hH; go_simp; first | done | with_reducible rfl) ?_; simp only [Act.put, pA, pZ, pS])
 refine rv_det (by kernel_rfl) rfl (by intro w hG hH; have hc0 := kc hG (s0); go_simp; first | done | with_reducible rfl) ?_
 simp only [Act.put, pA, pZ, pS]
 refine rv_rel (by kernel_rfl) rfl ⟨_, rfl⟩ (by
  intro w hG hH
  refine opVal_call (by go_simp; first | done | exact ⟨⟨rfl, rfl⟩, rfl⟩) ?_
  refine (CF.out _ hG).mono ?_
  rintro e w' ⟨rfl, hq⟩
  exact ⟨_, rfl, rfl, by first | (obtain ⟨nq, rfl⟩ := hq; exact (KB.refl _ _).drewN _) | (subst hq; exact KB.refl _ _) | exact hq, trivial⟩) ?_
 rintro v rfl
 simp only [Act.put, pA, pZ, pS]
 refine rv_det (by kernel_rfl) rfl (by intro w hG hH; go_simp; first | done | with_reducible rfl) ?_
 simp only [Act.put, pA, pZ, pS]
 refine rv_nil (fun w hG hH => ?_)
 have H1 := Lib.hid hG
 clear hG hH s0
 obtain ⟨hk, hb1, hb2, hb3, hGG, hN, hsz, hdp, hNb⟩ := HB.out
 have b1 := H1.out.heap (fun x => x) hb1
 have a0 := blk_cell b1 0
 have a1 := blk_cell b1 1
 have a2 := blk_cell b1 2
 have a3 := blk_cell b1 3
 have a4 := blk_cell b1 4
 simp only [List.getElem?_toArray, List.getElem?_cons_zero, List.getElem?_cons_succ] at a0 a1 a2 a3 a4
 clear hk hb1 hb2 hb3 hGG hN hsz hdp hNb
 go_wp2_with fail
 refine (OW.out _ H1.out).mono ?_
 rintro e w2 ⟨k2, ua, uc, rfl, ho⟩
 unfold tyV
 have b2 := k2.heap (fun x => x) b1
 have H2 := Lib.hid (And.intro k2 (And.intro ho (And.intro b1 b2)))
 clear a0 a1 a2 a3 a4 k2 ho b1
 have c0 := blk_cell b2 0
 have c1 := blk_cell b2 1
 have c2 := blk_cell b2 2
 have c3 := blk_cell b2 3
 have c4 := blk_cell b2 4
 simp only [List.getElem?_toArray, List.getElem?_cons_zero, List.getElem?_cons_succ] at c0 c1 c2 c3 c4
 have f0 := blk_frozen b2 0
 have f1 := blk_frozen b2 1
 have f2 := blk_frozen b2 2
 have f3 := blk_frozen b2 3
 have f4 := blk_frozen b2 4
 clear b2
 go_upto_region 5 with fail
 obtain ⟨W4, hW4⟩ : ∃ W4, W4 = (set5 w2 w0.heap.size (.int .u8 t.k) (.bool t.m) (.int .i64 t.r) (.int .i64 t.s) (.slice ua t.of.length uc)).alloc (.cells #[.int .i64 0] 3) := ⟨_, rfl⟩
 have HR : Hid (W4.heap[w0.heap.size]? = some (tyObj t ua uc) ∧ OwnU 47 W4 w.heap.size w2.heap.size t ua uc ∧ AnSt (w0.heap.size + 1) w2.heap.size G N 0 W4 ∧ KB F0 w0 W4 ∧ W4.heap[w0.heap.size + 1 + 1]? = some (.cells #[.int .u8 0, .bool false, .int .i64 0, .int .i64 0, .slice none 0 0] 26 (0, 0)) ∧ w0.heap.size + 3 ≤ w.heap.size ∧ w.heap.size ≤ w2.heap.size) := by
  obtain ⟨k2, ho, b1, b2⟩ := H2.out
  obtain ⟨hk, hb1, hb2, hb3, hGG, hN, hsz, hdp, hNb⟩ := HB.out
  have k5 := set5_kb w2 w0.heap.size (.int .u8 t.k) (.bool t.m) (.int .i64 t.r) (.int .i64 t.s) (.slice ua t.of.length uc)
  have s1 := H1.out.size
  have s2 := k2.size
  have gl := heap_lt hGG
  have ka : KB (fun k => k = w0.heap.size) w2 W4 := by rw [hW4]; exact k5.alloc _
  have h5 : (set5 w2 w0.heap.size (.int .u8 t.k) (.bool t.m) (.int .i64 t.r) (.int .i64 t.s) (.slice ua t.of.length uc)).heap.size = w2.heap.size := by unfold set5; simp [World.setCell]
  refine Lib.hid ⟨?_, ho.kb ka (fun k _ _ _ e => by omega), ⟨?_, ?_, ?_, by omega⟩, ?_, ?_, by omega, by omega⟩
  ·rw [hW4]
   exact ((KB.refl F0 _).alloc _).heap (fun x => x) (set5_blk b2 _ _ _ _ _)
  ·exact ka.heap (by omega) (k2.heap (fun x => x) (H1.out.heap (fun x => x) hb2))
  ·exact ka.heap (by omega) (k2.heap (fun x => x) (H1.out.heap (fun x => x) (hk.heap (fun x => x) hGG)))
  ·have := alloc_new (set5 w2 w0.heap.size (.int .u8 t.k) (.bool t.m) (.int .i64 t.r) (.int .i64 t.s) (.slice ua t.of.length uc)) (.cells #[.int .i64 0] 3)
   rw [h5, ← hW4] at this
   exact this
  ·exact (hk.trans (H1.out.trans k2)).oldS ka (fun k hk e => by omega)
  ·exact ka.heap (by omega) (k2.heap (fun x => x) (H1.out.heap (fun x => x) hb3.1))
 unfold set5 at hW4
 rw [← hW4]
 have HN := Lib.hid (And.intro HB.out.2.2.2.2.2.1 (And.intro HB.out.2.2.2.2.2.2.2.1 HB.out.2.2.2.2.2.2.2.2))
 have WK := Lib.hid (anWalk_any (w0.heap.size + 1) w2.heap.size G N w.heap.size HN.out.2.2 47 t w0.heap.size ua uc w2.heap.size 0 W4 HN.out.2.1 HR.out.1 HR.out.2.1 (by have := HR.out.2.2.2.2.2.1; omega) (Or.inr (Nat.le_refl _)) (by rw [HN.out.1, Nat.zero_add]; exact Nat.le_refl _) HR.out.2.2.1)
 clear hW4 c0 c1 c2 c3 c4 f0 f1 f2 f3 f4
 go_wp2_with fail
 refine WK.out.mono ?_
 rintro e w5 ⟨rfl, r1, r2, r3, r4⟩
 have k05 : KB F0 w0 w5 := HR.out.2.2.2.1.oldS r4 (fun k hk => by have h1 := HR.out.2.2.2.2.2.1; have h2 := HR.out.2.2.2.2.2.2; rintro ((e | e) | ⟨e1, e2⟩) <;> omega)
 have d4 : w5.heap[w0.heap.size + 1 + 1]? = some (.cells #[.int .u8 0, .bool false, .int .i64 0, .int .i64 0, .slice none 0 0] 26 (0, 0)) := r4.heap (by have h1 := HR.out.2.2.2.2.2.1; have h2 := HR.out.2.2.2.2.2.2; rintro ((e | e) | ⟨e1, e2⟩) <;> omega) HR.out.2.2.2.2.1
 unfold tyObj at r1
 have H5 := Lib.hid (And.intro r2 (And.intro k05 (And.intro d4 r1)))
 have c0 := blk_cell r1 0
 have c1 := blk_cell r1 1
 have c2 := blk_cell r1 2
 have c3 := blk_cell r1 3
 have c4 := blk_cell r1 4
 have x0 := blk_cell d4 0
 have x1 := blk_cell d4 1
 have x2 := blk_cell d4 2
 have x3 := blk_cell d4 3
 have x4 := blk_cell d4 4
 simp only [List.getElem?_toArray, List.getElem?_cons_zero, List.getElem?_cons_succ] at c0 c1 c2 c3 c4 x0 x1 x2 x3 x4
 have f0 := blk_frozen d4 0
 have f1 := blk_frozen d4 1
 have f2 := blk_frozen d4 2
 have f3 := blk_frozen d4 3
 have f4 := blk_frozen d4 4
 clear r1 r2 r3 r4 k05 d4
 go_wp2_with fail
 obtain ⟨r2, k05, d4, r1⟩ := H5.out
 refine ret_ty2 (X := w0.heap.size + 1 + 1) rfl rfl rfl (set5_blk d4 _ _ _ _ _) rfl ?_
 refine ⟨set5_new k05 (by omega) _ _ _ _ _, ua, uc, rfl, ?_⟩
 exact ((r2.own).kb (set5_kb w5 (w0.heap.size + 1 + 1) _ _ _ _ _) (fun k hk _ e => by have := HR.out.2.2.2.2.2.1; omega)).base (by have := HR.out.2.2.2.2.2.1; omega)
theorem bareF_look {S : Nat} : ∀ {n m : Nat} {t : Ty}, lookB S n t = true → lookB S n (bareF m t) = true := by
 intro n
 induction n with
 | zero => intro m t h; cases h
 | succ n ih =>
  intro m t h
  cases m with
  | zero => exact h
  | succ m =>
   by_cases h1 : t.of.length = 1
   ·rw [lookB_succ, bareF_len, bareF_in h1, bareF_k, bareF_m, bareF_s, bareF_r, decide_eq_true h1, Bool.true_and]
    rw [lookB_succ, decide_eq_true h1, Bool.true_and] at h
    cases hq : lookB S n (in0 t) with
    | true =>
     rw [hq] at h
     rw [ih hq]
     unfold lookV at h ⊢
     by_cases h4 : t.k = 4
     ·simp [h4] at h ⊢; exact h.2
     ·simp only [if_neg h4] at h ⊢; exact h
    | false =>
     rw [hq] at h
     unfold lookV at h
     simp [h1] at h
   ·rw [lookB_succ, bareF_len, bareF_k, bareF_m, bareF_s, bareF_r, decide_eq_false h1, Bool.false_and]
    rw [lookB_succ, decide_eq_false h1, Bool.false_and] at h
    unfold lookV at h ⊢
    by_cases h4 : t.k = 4
    ·simp [h4] at h
    ·simp only [if_neg h4] at h ⊢; exact h
theorem bareF_noR : ∀ {n : Nat} {m : Nat} {t : Ty}, n ≤ m → deepT n t = true → NoR (n + 1) (bareF (m + 1) t) := by
 intro n
 induction n with
 | zero =>
  intro m t _ h
  refine ⟨fun h4 => ?_, trivial⟩
  rw [bareF_k] at h4
  rw [bareF_r, if_pos h4]; decide
 | succ n ih =>
  intro m t hm h
  refine ⟨fun h4 => ?_, ?_⟩
  ·rw [bareF_k] at h4
   rw [bareF_r, if_pos h4]; decide
  ·by_cases h1 : t.of.length = 1
   ·rw [bareF_in h1]
    obtain ⟨q, hq, hd⟩ := deep_in h h1
    obtain rfl : n = q := by omega
    obtain ⟨m', rfl⟩ : ∃ m', m = m' + 1 := ⟨m - 1, by omega⟩
    exact ih (by omega) hd
   ·have h0 : t.of.length = 0 := by have := deep_le h; omega
    have e : in0 (bareF (m + 1) t) = ty0 := by
     have h2 : (bareF (m + 1) t).of = [] := List.eq_nil_of_length_eq_zero (by rw [bareF_len]; exact h0)
     unfold in0; rw [h2]; rfl
    rw [e]
    have : ∀ n : Nat, NoR n ty0 := fun n => by
     induction n with
     | zero => trivial
     | succ n ih => exact ⟨fun h => (by cases h), ih⟩
    exact this _
theorem txB_bare : ∀ (n m : Nat) (t : Ty), deepT n t = true → txB (n + 1) (bareF m t) = txB (n + 1) t := by
 intro n
 induction n with
 | zero =>
  intro m t h
  show (if (bareF m t).k = 1 then _ else _) = (if t.k = 1 then _ else _)
  rw [bareF_k, bareF_m, bareF_s]
  rfl
 | succ n ih =>
  intro m t h
  show (if (bareF m t).k = 1 then _ else _) = (if t.k = 1 then _ else _)
  rw [bareF_k, bareF_m, bareF_s]
  have e : txB (n + 1) (in0 (bareF m t)) = txB (n + 1) (in0 t) := by
   cases m with
   | zero => rfl
   | succ m =>
    by_cases h1 : t.of.length = 1
    ·rw [bareF_in h1]
     obtain ⟨q, hq, hd⟩ := deep_in h h1
     obtain rfl : n = q := by omega
     exact ih m _ hd
    ·have h0 : t.of.length = 0 := by have := deep_le h; omega
     have h2 : (bareF (m + 1) t).of = [] := List.eq_nil_of_length_eq_zero (by rw [bareF_len]; exact h0)
     have h3 : t.of = [] := List.eq_nil_of_length_eq_zero h0
     unfold in0; rw [h2, h3]
  show (if t.k = 1 then _ else if t.k = 2 then _ else if t.k = 3 then _ ++ txB (n + 1) (in0 (bareF m t)) ++ _ else if t.k = 5 then _ else ampM t.m (txB (n + 1) (in0 (bareF m t)))) = _
  rw [e]
set_option maxRecDepth 100000 in
set_option maxHeartbeats 8000000 in
/-- types.Text of a type without regions. -/
theorem tyText_any (t : Ty) (ta : Option Addr) (tc : Nat) (w : World) (hlk : lookB 32 48 t = true) (hr : NoR 48 t) (ht : TyAt 49 w t ta tc) :
  Calls Tryz.prog 97 #[tyV t ta tc] w fun e w' => e = .returned (.tuple #[.string (txB 48 t), .int .i64 0]) ∧ KB F0 w w' := by
 obtain ⟨w0, rfl⟩ : ∃ w0, w0 = w := ⟨_, rfl⟩
 obtain ⟨W, hW⟩ : ∃ W, W = w0.alloc (.cells #[.int .u8 t.k, .bool t.m, .int .i64 t.r, .int .i64 t.s, .slice ta t.of.length tc] 26) := ⟨_, rfl⟩
 obtain ⟨kb, hb⟩ := boxTy w0 t ta tc
 rw [← hW] at kb hb
 obtain ⟨c0, c1, c2, c3, c4⟩ := TyCells.of_block hb
 simp only [Nat.zero_add] at c0 c1 c2 c3 c4
 have MY := Lib.hid (tymay_any t ta tc W (ht.kbF kb))
 rw [hlk] at MY
 have TX := Lib.hid (fun (V : World) (hV : KB F0 W V) => tytext_any 48 (by omega) t ta tc V hlk hr ((ht.kbF (kb.trans hV)).le (by omega)))
 obtain ⟨R, hR⟩ : ∃ R, R = txB 48 t := ⟨_, rfl⟩
 rw [← hR] at TX ⊢
 unfold tyV at MY TX ⊢
 have HW := Lib.hid hW
 have HB := Lib.hid (And.intro kb hb)
 clear hW kb hb hlk hr ht hR
 go_enter Tryz.func97, Tryz.ntmps97
 go_upto_region 1 with fail
 rw [← HW.out]
 go_wp2_with fail
 refine MY.out.mono ?_
 rintro e w1 ⟨rfl, k1⟩
 have K1 := Lib.hid k1
 have hb1 := k1.heap (fun x => x) HB.out.2
 clear c0 c1 c2 c3 c4 k1
 obtain ⟨c0, c1, c2, c3, c4⟩ := TyCells.of_block hb1
 simp only [Nat.zero_add] at c0 c1 c2 c3 c4
 clear hb1
 go_wp2_with fail
 refine (TX.out _ K1.out).mono ?_
 rintro e w2 ⟨rfl, k2⟩
 have K2 := Lib.hid (HB.out.1.trans (K1.out.trans k2))
 clear k2
 go_wp2_with fail
 go_ret2
 exact ⟨rfl, K2.out⟩

theorem own_at {w : World} {B : Nat} : ∀ {n m : Nat} {t : Ty} {a : Option Addr} {c : Nat}, OwnT n w B t a c → TyAt m w t a c := by
 intro n
 induction n with
 | zero =>
  intro m t a c h
  cases m with
  | zero => trivial
  | succ m => exact ⟨by have := h.1; omega, fun i hi => by have := h.1; omega⟩
 | succ n ih =>
  intro m t a c h
  cases m with
  | zero => trivial
  | succ m =>
   rcases h with h | ⟨h1, g, a', c', h2, h3, h4, h5, h6⟩
   ·exact ⟨by have := h.1; omega, fun i hi => by have := h.1; omega⟩
   ·refine ⟨by omega, fun i hi => ?_⟩
    obtain rfl : i = 0 := by omega
    have hc := TyCells.of_block h5
    refine ⟨g, 0, a', c', h2, ?_, ih h6⟩
    rw [Nat.zero_mul, Nat.add_zero]
    exact hc
set_option maxRecDepth 100000 in
set_option maxHeartbeats 32000000 in
theorem lytext_any (t : Ty) (ta : Option Addr) (tc : Nat) (w : World) (hlk : lookB 32 48 t = true) (ht : TyAt 49 w t ta tc) :
  Calls Tryz.prog 79 #[tyV t ta tc] w fun e w' => e = .returned (.string (txB 48 t)) ∧ KB F0 w w' := by
 obtain ⟨w0, rfl⟩ : ∃ w0, w0 = w := ⟨_, rfl⟩
 obtain ⟨W, hW⟩ : ∃ W, W = w0.alloc (.cells #[.int .u8 t.k, .bool t.m, .int .i64 t.r, .int .i64 t.s, .slice ta t.of.length tc] 26) := ⟨_, rfl⟩
 obtain ⟨kb, hb⟩ := boxTy w0 t ta tc
 rw [← hW] at kb hb
 obtain ⟨c0, c1, c2, c3, c4⟩ := TyCells.of_block hb
 simp only [Nat.zero_add] at c0 c1 c2 c3 c4
 have RG := Lib.hid (tyRegions_any t ta tc W (ht.kbF kb))
 obtain ⟨N, hN⟩ : ∃ N, N = (regsF 48 t).length := ⟨_, rfl⟩
 rw [if_pos hlk, ← hN] at RG
 have hNb : N ≤ 1000000 := by rw [hN]; exact Nat.le_trans (regsF_le 48 t) (by omega)
 have AW := Lib.hid (fun (G : Nat) (V : World) (hV : KB F0 W V) (hG : V.heap[G]? = some (.cells (repC (-1) N N).toArray 3 (0, 0))) => anew_any t ta tc G N V hlk (ht.kbF (kb.trans hV)) hG hN.symm)
 have TX := Lib.hid (fun (ua : Option Addr) (uc : Nat) (V : World) (hV : TyAt 49 V (bareF 48 t) ua uc) => tyText_any (bareF 48 t) ua uc V (bareF_look hlk) (bareF_noR (m := 47) (Nat.le_refl 47) (deep_look1 hlk)) hV)
 rw [txB_bare 47 48 t (deep_look1 hlk)] at TX
 obtain ⟨R, hR⟩ : ∃ R, R = txB 48 t := ⟨_, rfl⟩
 rw [← hR] at TX ⊢
 unfold tyV at RG AW TX ⊢
 have HW := Lib.hid hW
 have hsz : W.heap.size = w0.heap.size + 1 := by rw [hW]; simp
 have HB := Lib.hid (And.intro kb (And.intro hb (And.intro hsz hNb)))
 clear hW kb hb hlk ht hR hN hNb hsz
 go_enter Tryz.func79, Tryz.ntmps79
 go_upto_region 1 with fail
 rw [← HW.out]
 go_wp2_with fail
 refine RG.out.mono ?_
 rintro e w1 ⟨v, rfl, hown, k1⟩
 obtain ⟨ga, gc, rfl, -⟩ := own_shape hown
 have K1 := Lib.hid k1
 have hb1 := k1.heap (fun x => x) HB.out.2.1
 clear c0 c1 c2 c3 c4 k1 hown
 obtain ⟨c0, c1, c2, c3, c4⟩ := TyCells.of_block hb1
 simp only [Nat.zero_add] at c0 c1 c2 c3 c4
 have HB1 := Lib.hid hb1
 clear hb1 RG
 go_upto_region 2 with fail
 have RP := Lib.hid (fun (b0 : Nat) (V : World) (h : V.heap[b0]? = some (.cells #[.int .i64 (-1)] 3 (0, 0))) => repeat_any (-1) N HB.out.2.2.2 b0 V h)
 obtain ⟨Wd, hWd⟩ : ∃ Wd, Wd = (w1.alloc (.cells #[.int .i64 (-1)] 3)).drew := ⟨_, rfl⟩
 have HWd := Lib.hid hWd
 have RP2 : Hid (Calls Tryz.prog 96 #[.slice (some ⟨w1.heap.size, 0, none⟩) 1 1, .int .i64 (N : Nat)] (w1.alloc (.cells #[.int .i64 (-1)] 3)).drew fun e w' => ∃ g, e = .returned (.slice (some ⟨g, 0, none⟩) N N) ∧ w'.heap[g]? = some (.cells (repC (-1) N N).toArray 3 (0, 0)) ∧ KB F0 w1 w') := Lib.hid ((RP.out w1.heap.size ((w1.alloc (.cells #[.int .i64 (-1)] 3)).drew) (alloc_new w1 _)).mono (fun e w' ⟨g, h1, _, h2, h3⟩ => ⟨g, h1, h2, (((KB.refl F0 w1).alloc _).drew).trans h3⟩))
 clear hWd
 have p0 : ((w1.alloc (.cells #[.int .i64 (-1)] 3)).drew).cell? ⟨w0.heap.size, 0, none⟩ = some (.int .u8 t.k) := KB.cell (p := ⟨w0.heap.size, 0, none⟩) (((KB.refl F0 w1).alloc _).drew) (fun x => x) c0
 have p1 : ((w1.alloc (.cells #[.int .i64 (-1)] 3)).drew).cell? ⟨w0.heap.size, 1, none⟩ = some (.bool t.m) := KB.cell (p := ⟨w0.heap.size, 1, none⟩) (((KB.refl F0 w1).alloc _).drew) (fun x => x) c1
 have p2 : ((w1.alloc (.cells #[.int .i64 (-1)] 3)).drew).cell? ⟨w0.heap.size, 2, none⟩ = some (.int .i64 t.r) := KB.cell (p := ⟨w0.heap.size, 2, none⟩) (((KB.refl F0 w1).alloc _).drew) (fun x => x) c2
 have p3 : ((w1.alloc (.cells #[.int .i64 (-1)] 3)).drew).cell? ⟨w0.heap.size, 3, none⟩ = some (.int .i64 t.s) := KB.cell (p := ⟨w0.heap.size, 3, none⟩) (((KB.refl F0 w1).alloc _).drew) (fun x => x) c3
 have p4 : ((w1.alloc (.cells #[.int .i64 (-1)] 3)).drew).cell? ⟨w0.heap.size, 4, none⟩ = some (.slice ta t.of.length tc) := KB.cell (p := ⟨w0.heap.size, 4, none⟩) (((KB.refl F0 w1).alloc _).drew) (fun x => x) c4
 go_region_with (first
  | (go_at_call 96; refine RP2.out.mono ?_; rintro e w3 ⟨g, rfl, hg2, hk3⟩; have q0 := hk3.cell (p := ⟨w0.heap.size, 0, none⟩) (fun x => x) c0; have q1 := hk3.cell (p := ⟨w0.heap.size, 1, none⟩) (fun x => x) c1; have q2 := hk3.cell (p := ⟨w0.heap.size, 2, none⟩) (fun x => x) c2; have q3 := hk3.cell (p := ⟨w0.heap.size, 3, none⟩) (fun x => x) c3; have q4 := hk3.cell (p := ⟨w0.heap.size, 4, none⟩) (fun x => x) c4)
  | (go_at_call 95; refine (AW.out g w3 (K1.out.trans hk3) hg2).mono ?_; rintro e w4 ⟨hk4, ua, uc, rfl, ho4⟩; have b4 := (hk3.trans hk4).heap (fun x => x) HB1.out; have H4 := Lib.hid (And.intro hk3 (And.intro hk4 (And.intro ho4 b4))); have d0 := blk_cell b4 0; have d1 := blk_cell b4 1; have d2 := blk_cell b4 2; have d3 := blk_cell b4 3; have d4 := blk_cell b4 4; simp only [List.getElem?_toArray, List.getElem?_cons_zero, List.getElem?_cons_succ] at d0 d1 d2 d3 d4; have f0 := blk_frozen b4 0; have f1 := blk_frozen b4 1; have f2 := blk_frozen b4 2; have f3 := blk_frozen b4 3; have f4 := blk_frozen b4 4; clear hk3 hk4 ho4 b4 hg2; unfold tyV))
 all_goals
  obtain ⟨W5, hW5⟩ : ∃ W5, W5 = set5 w4 w0.heap.size (.int .u8 (bareF 48 t).k) (.bool (bareF 48 t).m) (.int .i64 (bareF 48 t).r) (.int .i64 (bareF 48 t).s) (.slice ua (bareF 48 t).of.length uc) := ⟨_, rfl⟩
  have H5 : Hid (KB F0 w0 W5 ∧ TyAt 49 W5 (bareF 48 t) ua uc) := by
   obtain ⟨hk3, hk4, ho4, b4⟩ := H4.out
   have k5 := set5_kb w4 w0.heap.size (.int .u8 (bareF 48 t).k) (.bool (bareF 48 t).m) (.int .i64 (bareF 48 t).r) (.int .i64 (bareF 48 t).s) (.slice ua (bareF 48 t).of.length uc)
   rw [← hW5] at k5
   have s1 := HB.out.2.2.1
   have s2 := K1.out.size
   have s3 := hk3.size
   exact Lib.hid ⟨(HB.out.1.trans (K1.out.trans (hk3.trans hk4))).oldS k5 (fun k hk e => by omega), own_at (ho4.kb k5 (fun k hk _ e => by omega))⟩
  have b5 : W5.heap[w0.heap.size]? = some (.cells #[.int .u8 (bareF 48 t).k, .bool (bareF 48 t).m, .int .i64 (bareF 48 t).r, .int .i64 (bareF 48 t).s, .slice ua (bareF 48 t).of.length uc] 26 (0, 0)) := by
   rw [hW5]; exact set5_blk H4.out.2.2.2 _ _ _ _ _
  clear c0 c1 c2 c3 c4 d0 d1 d2 d3 d4 f0 f1 f2 f3 f4 p0 p1 p2 p3 p4 q0 q1 q2 q3 q4
  obtain ⟨c0, c1, c2, c3, c4⟩ := TyCells.of_block b5
  simp only [Nat.zero_add] at c0 c1 c2 c3 c4
  unfold set5 at hW5
  rw [← hW5]
  clear hW5 b5
  go_wp2_with fail
  refine (TX.out ua uc W5 H5.out.2).mono ?_
  rintro e w6 ⟨rfl, k6⟩
  have K6 := Lib.hid (H5.out.1.trans k6)
  clear k6
  go_wp2_with fail
  go_ret
  exact ⟨rfl, K6.out⟩
open Go.Maps

theorem msT : Tryz.prog.underlying 107 = some (.map 9 3) := by kernel_rfl
theorem msS : Tryz.prog.underlying 9 = some .string := by kernel_rfl
theorem msI : Tryz.prog.underlying 3 = some (.int .i64) := by kernel_rfl
theorem msZ (w : World) : (zeroValue 3).run Tryz.prog w = .ok (.int .i64 0) w := by kernel_rfl
def MapIs (w : World) (b n : Nat) (f : List UInt8 → Option Int) : Prop := ∃ D : DataW Unit, w.ownsMap Tryz.prog 9 (plainElem Tryz.prog 3) b n D ∧ IsMap D ∧ ∀ s zd, D.atKey (.string s) zd = match f s with | some i => .lit (.int .i64 i) | none => zd
theorem MapIs.lt {w : World} {b n : Nat} {f : List UInt8 → Option Int} (h : MapIs w b n f) : b < w.heap.size := by
 obtain ⟨D, h, -⟩ := h
 exact h.lt
theorem MapIs.kb {S : Nat → Prop} {w w' : World} {b n : Nat} {f : List UInt8 → Option Int} (h : MapIs w b n f) (hk : KB S w w') (hb : ¬ S b) : MapIs w' b n f := by
 obtain ⟨D, ⟨es, clock, h1, h2, h3, h4⟩, h5⟩ := h
 exact ⟨D, ⟨es, clock, hk.heap hb h1, h2, h3, h4⟩, h5⟩
theorem mapIs_made (w : World) : MapIs (w.alloc (.map #[] 0)) w.heap.size 0 (fun _ => none) := ⟨.map [], World.ownsMap_made w _ _ _, ⟨[], rfl⟩, fun _ _ => rfl⟩
theorem mapIs_look {w : World} {b n : Nat} {f : List UInt8 → Option Int} (h : MapIs w b n f) (s : ByteArray) (hs : s.size ≤ maxLen) :
  (Instr.lookup 107 (.map (some b)) (.string s) true).run Tryz.prog w = .ok (.tuple #[.int .i64 ((f s.data.toList).getD 0), .bool (f s.data.toList).isSome]) w := by
 obtain ⟨D, ⟨es, clock, h1, h2, h3, rfl⟩, -, h6⟩ := h
 have hat := h6 s.data.toList
 rcases fit_look true (string_keyed msS) msT (msZ w) h1 h2 (WideMaps.keyOf_string_mk msS hs) with ⟨hrun, -, ha⟩ | ⟨e0, y, -, -, hrun, hR, ha, -⟩
 ·rw [hrun]
  cases hf : f s.data.toList with
  | none => rfl
  | some i =>
   have e1 := (ha (.lit (.bool true))).symm.trans (hat (.lit (.bool true)))
   rw [hf] at e1
   cases e1
 ·rw [hrun]
  obtain ⟨c, e1, rfl, -⟩ := plainElem_int_inv msI hR
  cases hf : f s.data.toList with
  | none =>
   have e2 := (ha (.lit (.bool true))).symm.trans (hat (.lit (.bool true)))
   rw [hf] at e2
   cases e2
  | some i =>
   have e2 := (ha (.lit (.bool true))).symm.trans (hat (.lit (.bool true)))
   rw [hf] at e2
   cases e2
   rw [e1]
   rfl
theorem mapIs_put {w : World} {b n : Nat} {f : List UInt8 → Option Int} (h : MapIs w b n f) (hn : n < maxLen) (s : ByteArray) (hs : s.size ≤ maxLen) (c : Int) (hc : (Lit.int .i64 c).wf = true) :
  ∃ w', (Instr.mapUpdate 107 (.map (some b)) (.string s) (.int .i64 c)).run Tryz.prog w = .ok () w' ∧ MapIs w' b (n + 1) (fun l => if l = s.data.toList then some c else f l) ∧ KB (fun k => k = b) w w' := by
 obtain ⟨D, h1, h2, h3⟩ := h
 obtain ⟨w', hrun, r1, r2⟩ := h1.update (string_keyed msS) msT hn (WideMaps.keyOf_string_mk msS hs) (plainElem_int msI hc)
 refine ⟨w', hrun, ⟨_, r1, ?_, fun l zd => ?_⟩, (KB.refl _ w).grown r2 (fun k hk _ => by simpa using hk.symm)⟩
 ·obtain ⟨es, clock, -, -, -, e⟩ := r1
  exact ⟨_, e⟩
 ·by_cases hl : l = s.data.toList
  ·subst hl
   simp only [if_true]
   exact atKey_put_same h2 (show WideAt.IsKeyLit (.string _) from trivial) _ _
  ·simp only [if_neg hl]
   rw [atKey_put_other (by intro e; exact hl (by simpa using e))]
   exact h3 l zd
end Go.Proofs.YtaeppaaolkcbbaaGreatDoor

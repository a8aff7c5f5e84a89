/- layout.Frame. -/
import Derived.Test.YtaeppaaolkcbbaaGreatDoorMg39
import Derived.Test.YtaeppaaolkcbbaaGreatDoorMg07
import Derived.Test.YtaeppaaolkcbbaaGreatDoorMg12
import Derived.Test.YtaeppaaolkcbbaaGreatDoorMg09
import Derived.Deep.LoopGhost
namespace Go.Proofs.YtaeppaaolkcbbaaGreatDoor
open Go.RowKit

def layS (S : List (List Ty)) (L : List Ty) (s : List Int × Nat) (i : Nat) : List Int × Nat := (s.1.set i (s.2 : Int), s.2 + wF S 34 (L.getD i ty0))
def frO (P k : Nat) : List Nat := (List.range k).map fun j => if j < P then j + 1 else if j = P then 0 else j
def frS (S : List (List Ty)) (L : List Ty) (P k : Nat) : List Int × Nat := (frO P k).foldl (layS S L) (List.replicate L.length 0, 0)
theorem frS_succ (S : List (List Ty)) (L : List Ty) (P k : Nat) : frS S L P (k + 1) = layS S L (frS S L P k) (if k < P then k + 1 else if k = P then 0 else k) := by
 unfold frS frO; rw [List.range_succ, List.map_append, List.foldl_append]; rfl
theorem frS_len (S : List (List Ty)) (L : List Ty) (P : Nat) : ∀ k, (frS S L P k).1.length = L.length := by
 intro k
 induction k with
 | zero => show (List.replicate L.length (0 : Int)).length = _; simp
 | succ k ih => rw [frS_succ]; show (List.set _ _ _).length = _; rw [List.length_set]; exact ih
theorem frS_n {S : List (List Ty)} (hg : GoodS S) (L : List Ty) (hL : ∀ t ∈ L, InT S t) (P : Nat) : ∀ k, (frS S L P k).2 ≤ 16 * k := by
 intro k
 induction k with
 | zero => exact Nat.le_refl _
 | succ k ih =>
  rw [frS_succ]
  show (frS S L P k).2 + wF S 34 _ ≤ _
  have : ∀ i, wF S 34 (L.getD i ty0) ≤ 16 := fun i => by
   rw [List.getD_eq_getElem?_getD]
   cases hq : L[i]? with
   | none => show wF S 34 ty0 ≤ 16; unfold wF; rw [if_neg (by decide)]; decide
   | some t => exact hg.w16 34 t (hg.fin t) (hL t (List.mem_of_getElem? hq))
  have := this (if k < P then k + 1 else if k = P then 0 else k)
  omega
structure FrSt (S : List (List Ty)) (L : List Ty) (sa : Option Addr) (sc : Nat) (cu cg : Array Value) (Bn Ba Bu Bg G : Nat) (s : List Int × Nat) (w : World) : Prop where
 n : w.heap[Bn]? = some (.cells #[.int .i64 (s.2 : Nat)] 3 (0, 0))
 a : w.heap[Ba]? = some (.cells #[.slice (some ⟨G, 0, none⟩) L.length L.length] 40 (0, 0))
 g : w.heap[G]? = some (.cells (s.1.map (Value.int .i64)).toArray 3 (0, 0))
 u : w.heap[Bu]? = some (.cells cu 49 (0, 0))
 gr : w.heap[Bg]? = some (.cells cg 88 (0, 0))
 ne : Bn ≠ G
 len : s.1.length = L.length
theorem FrSt.kbF {S : List (List Ty)} {L : List Ty} {sa : Option Addr} {sc : Nat} {cu cg : Array Value} {Bn Ba Bu Bg G : Nat} {s : List Int × Nat} {w w' : World} (h : FrSt S L sa sc cu cg Bn Ba Bu Bg G s w) (hk : KB F0 w w') : FrSt S L sa sc cu cg Bn Ba Bu Bg G s w' :=
 ⟨hk.heap (fun x => x) h.n, hk.heap (fun x => x) h.a, hk.heap (fun x => x) h.g, hk.heap (fun x => x) h.u, hk.heap (fun x => x) h.gr, h.ne, h.len⟩
set_option maxRecDepth 100000 in
set_option maxHeartbeats 32000000 in
theorem frame1_any (S : List (List Ty)) (hg : GoodS S) (L : List Ty) (hL : ∀ t ∈ L, lookB S.length 48 t = true) (hLb : L.length ≤ 512) (sa : Option Addr) (sc : Nat) (la : Option Addr) (lc : Nat) (v1 v2 c0 c1 c2 c3 c5 c6 : Value) (Bn Ba Bu Bg G : Nat) (s : List Int × Nat) (w w00 : World) (hS : StsAt 49 w00 sa S) (hT : TysAt 49 w00 la L) (hk : KB F0 w00 w)
  (hs : s.2 ≤ 100000) (hGn : w00.heap.size ≤ G) (h : FrSt S L sa sc #[.slice sa S.length sc, v1, v2] #[c0, c1, c2, c3, .slice la L.length lc, c5, c6] Bn Ba Bu Bg G s w) (i : Nat) (hi : i < L.length) :
  Calls Tryz.prog 54 #[.int .i64 (i : Nat), .pointer (some ⟨Bn, 0, none⟩), .pointer (some ⟨Ba, 0, none⟩), .pointer (some ⟨Bu, 0, none⟩), .pointer (some ⟨Bg, 0, none⟩)] w fun e w' => e = .returned (.tuple #[]) ∧
   FrSt S L sa sc #[.slice sa S.length sc, v1, v2] #[c0, c1, c2, c3, .slice la L.length lc, c5, c6] Bn Ba Bu Bg G (layS S L s i) w' ∧ KB (fun k => k = Bn ∨ k = G) w w' := by
 obtain ⟨w0, rfl⟩ : ∃ w0, w0 = w := ⟨_, rfl⟩
 obtain ⟨NL, hNL⟩ : ∃ n, n = L.length := ⟨_, rfl⟩
 obtain ⟨NS, hNS⟩ : ∃ n, n = S.length := ⟨_, rfl⟩
 obtain ⟨tb, tf, ta, tc, hla, hty, hta⟩ := hT i hi
 obtain ⟨t, ht⟩ : ∃ t, t = L.getD i ty0 := ⟨_, rfl⟩
 rw [← ht] at hty hta
 have htm : t ∈ L := by rw [ht, List.getD_eq_getElem?_getD, List.getElem?_eq_getElem hi]; exact List.getElem_mem hi
 have a0 : w0.cell? ⟨Ba, 0, none⟩ = some (.slice (some ⟨G, 0, none⟩) NL NL) := by rw [hNL]; exact blk_cell h.a 0
 have n0 : w0.cell? ⟨Bn, 0, none⟩ = some (.int .i64 (s.2 : Nat)) := blk_cell h.n 0
 have hsi : i < s.1.length := by rw [h.len]; exact hi
 obtain ⟨gv, g0⟩ : ∃ x, w0.cell? ⟨G, i, none⟩ = some (.int .i64 x) := ⟨s.1[i], by rw [blk_cell h.g]; simp [hsi]⟩
 have fg := blk_frozen h.g i
 have hi0 : ¬ (i : Int) < 0 := by omega
 have hiI : (i : Int) < (NL : Int) := by omega
 obtain ⟨w1, h1⟩ : ∃ w1, w1 = w0.setCell ⟨G, i, none⟩ (.int .i64 (s.2 : Nat)) := ⟨_, rfl⟩
 have k1 := kb_set w0 G i (.int .i64 (s.2 : Nat))
 rw [← h1] at k1
 have neBa : Ba ≠ G := obj_ne h.a h.g (by decide)
 have neBu : Bu ≠ G := obj_ne h.u h.g (by decide)
 have neBg : Bg ≠ G := obj_ne h.gr h.g (by decide)
 have nB1 : Ba ≠ Bn := obj_ne h.a h.n (by decide)
 have nB2 : Bu ≠ Bn := obj_ne h.u h.n (by decide)
 have nB3 : Bg ≠ Bn := obj_ne h.gr h.n (by decide)
 have hg1 : w1.heap[G]? = some (.cells ((s.1.set i (s.2 : Int)).map (Value.int .i64)).toArray 3 (0, 0)) := by
  rw [h1, setCell_blk (i := i) h.g]
  congr 2
  apply Array.ext'
  simp [List.map_set]
 have hn1 := k1.heap h.ne h.n
 have hu1 := k1.heap neBu h.u
 have hr1 := k1.heap neBg h.gr
 have hG1 := k1.heap neBa h.a
 have n1 : w1.cell? ⟨Bn, 0, none⟩ = some (.int .i64 (s.2 : Nat)) := blk_cell hn1 0
 have fn1 := blk_frozen hn1 0
 have u0 : w1.cell? ⟨Bu, 0, none⟩ = some (.slice sa NS sc) := by rw [hNS]; exact blk_cell hu1 0
 have r4 : w1.cell? ⟨Bg, 4, none⟩ = some (.slice la NL lc) := by rw [hNL]; exact blk_cell hr1 4
 have kw1 : KB F0 w00 w1 := hk.oldS k1 (fun k hk e => by omega)
 obtain ⟨i0, i1, i2, i3, i4⟩ := hty.kbF kw1
 have WD := Lib.hid (fun (V : World) (hV : KB F0 w1 V) => lywords_any S hg.inR hg.len (fun i => Nat.le_trans (hg.len8 i) (by omega)) (fun n t hf hi => hg.w16 n t hf hi) 49 sa sc 34 t ta tc V (hg.fin t) (look_inT (hL t htm)) (hS.kbF (kw1.trans hV)))
 obtain ⟨wd, hwd⟩ : ∃ x, x = wF S 34 t := ⟨_, rfl⟩
 have hwb : wd ≤ 16 := by rw [hwd]; exact hg.w16 34 t (hg.fin t) (look_inT (hL t htm))
 have hlay : layS S L s i = (s.1.set i (s.2 : Int), s.2 + wd) := by rw [hwd, ht]; rfl
 unfold tyV at WD
 rw [← hwd, ← hNS] at WD
 obtain ⟨n, hn⟩ : ∃ n, n = s.2 := ⟨_, rfl⟩
 rw [← hn] at n0 n1 h1 hs
 have wq : IntKind.i64.wrap ((n : Int) + (wd : Int)) = ((n + wd : Nat) : Int) := by rw [w64 (by omega) (by omega)]; omega
 have HH := Lib.hid (And.intro k1 (And.intro hg1 (And.intro hn1 (And.intro hu1 (And.intro hr1 (And.intro hG1 (And.intro h (And.intro hlay (And.intro hn (And.intro nB1 (And.intro nB2 (And.intro nB3 hNS))))))))))))
 have H1 := Lib.hid h1
 rw [hla] at r4
 generalize t.k = tk at *
 generalize t.m = tm at *
 generalize t.r = tr at *
 generalize t.s = ts at *
 clear h k1 hg1 hn1 hu1 hr1 hG1 hlay hn h1 hty hta htm ht hS hT hk hg hL kw1 hwd neBa neBu neBg nB1 nB2 nB3 hGn hla hNS hsi hLb hNL
 go_enter Tryz.func54, Tryz.ntmps54
 go_upto_region 1 with fail
 rw [← H1.out]
 clear a0 n0 g0 fg
 refine wp_region_rv 10 GK (kindW [(8, (fun v => v = .int .i64 (wd : Nat)), (fun _ _ => True))]) (by kernel_rfl) (by kernel_rfl) (kb_trans _) (kb_refl _) (kb_start _ _) (kindW_mono _ (by intro p hp; simp only [List.mem_cons, List.not_mem_nil, or_false] at hp; rcases hp with rfl <;> exact lasts_true)) ?_
 simp only [pT, pU, pV, pW]
 refine rv_det (by kernel_rfl) rfl (by intro w hG hH; have hc0 := kc hG (n1); go_simp; first | done | with_reducible rfl) ?_
 simp only [Act.put, pA, pZ, pS]
 refine rv_det (by kernel_rfl) rfl (by intro w hG hH; go_simp; first | done | with_reducible rfl) ?_
 simp only [Act.put, pA, pZ, pS]
 refine rv_det (by kernel_rfl) rfl (by intro w hG hH; have hc0 := kc hG (u0); go_simp; first | done | with_reducible rfl) ?_
 simp only [Act.put, pA, pZ, pS]
 refine rv_det (by kernel_rfl) rfl (by intro w hG hH; go_simp; first | done | with_reducible rfl) ?_
 simp only [Act.put, pA, pZ, pS]
 refine rv_det (by kernel_rfl) rfl (by intro w hG hH; have hc0 := kc hG (r4); go_simp; first | done | with_reducible rfl) ?_
 simp only [Act.put, pA, pZ, pS]
 iterate 2 (refine rv_det (by kernel_rfl) rfl (by intro w hG hH; go_simp; first | done | with_reducible rfl) ?_; simp only [Act.put, pA, pZ, pS])
 refine rv_det (by kernel_rfl) rfl (by intro w hG hH; have hc0 := kc hG (i0); have hc1 := kc hG (i1); have hc2 := kc hG (i2); have hc3 := kc hG (i3); have hc4 := kc hG (i4); go_simp; first | done | with_reducible rfl) ?_
 simp only [Act.put, pA, pZ, pS]
 refine rv_rel (by kernel_rfl) rfl ⟨_, rfl⟩ (by
  intro w hG hH
  refine opVal_call (by go_simp; first | done | exact ⟨⟨rfl, rfl⟩, rfl⟩) ?_
  refine (WD.out _ hG).mono ?_
  rintro e w' ⟨rfl, hq⟩
  exact ⟨_, rfl, rfl, by first | (obtain ⟨nq, rfl⟩ := hq; exact (KB.refl _ _).drewN _) | (subst hq; exact KB.refl _ _) | exact hq, trivial⟩) ?_
 rintro v rfl
 simp only [Act.put, pA, pZ, pS]
 refine rv_det (by kernel_rfl) rfl (by intro w hG hH; go_simp; first | done | with_reducible rfl) ?_
 simp only [Act.put, pA, pZ, pS]
 refine rv_nil (fun w hG hH => ?_)
 obtain ⟨w2, rfl⟩ : ∃ x, x = w := ⟨_, rfl⟩
 have hn2 := hG.heap (fun x => x) HH.out.2.2.1
 have n2 : w2.cell? ⟨Bn, 0, none⟩ = some (.int .i64 (n : Nat)) := by rw [blk_cell hn2 0, HH.out.2.2.2.2.2.2.2.2.1]; rfl
 have f2 := blk_frozen hn2 0
 have H2 := Lib.hid (And.intro hG hn2)
 clear hG hH n1 fn1 u0 r4 i0 i1 i2 i3 i4 hn2
 go_wp2_with fail
 go_end0
 obtain ⟨k1, hg1, hn1, hu1, hr1, hG1, h, hlay, hn, nB1, nB2, nB3, hNS⟩ := HH.out
 have k2 := kb_set w2 Bn 0 (.int .i64 ((n + wd : Nat) : Int))
 have hb := setCell_blk (i := 0) H2.out.2 (.int .i64 ((n + wd : Nat) : Int))
 have h01 : KB (fun k => k = Bn ∨ k = G) w0 w1 := k1.mono (fun k _ e => Or.inr e)
 have h02 := (h01.trans (H2.out.1.mono (fun _ _ x => x.elim))).trans (k2.mono (fun k _ e => Or.inl e))
 refine ⟨rfl, ⟨?_, h02.heap (fun e => by rcases e with e | e; exact nB1 e; exact obj_ne h.a h.g (by decide) e) h.a, ?_, h02.heap (fun e => by rcases e with e | e; exact nB2 e; exact obj_ne h.u h.g (by decide) e) h.u, h02.heap (fun e => by rcases e with e | e; exact nB3 e; exact obj_ne h.gr h.g (by decide) e) h.gr, h.ne, ?_⟩, h02⟩
 ·rw [hlay, ← hn]
  exact hb
 ·rw [hlay]
  exact k2.heap (fun e => h.ne e.symm) (H2.out.1.heap (fun x => x) hg1)
 ·rw [hlay]
  show (List.set _ _ _).length = _
  rw [List.length_set]
  exact h.len
theorem ret_fr {fn : Func} {R : Ending → World → Prop} {a : Act} {w : World} {p q r X Y : Nat} {a1 : Option Addr} {l c : Nat} {z : Int} {x : Value} (h : fn.results = #[.cell p 40, .cell q 3, .tmp r]) (hp : a.tmps.getD p undef = .pointer (some ⟨X, 0, none⟩)) (hq : a.tmps.getD q undef = .pointer (some ⟨Y, 0, none⟩)) (hr : a.tmps.getD r undef = x)
  (hc : w.cell? ⟨X, 0, none⟩ = some (.slice a1 l c)) (hz : w.cell? ⟨Y, 0, none⟩ = some (.int .i64 z)) (hd : a.defers = []) (hR : R (.returned (.tuple #[.slice a1 l c, .int .i64 z, x])) w) : bodyPost Tryz.prog fn R .ret a w := by
 refine bodyPost_ret (v := .tuple #[.slice a1 l c, .int .i64 z, x]) ?_ hd hR
 have hp' : a.tmps[p]?.getD undef = .pointer (some ⟨X, 0, none⟩) := by simpa using hp
 have hq' : a.tmps[q]?.getD undef = .pointer (some ⟨Y, 0, none⟩) := by simpa using hq
 have hr' : a.tmps[r]?.getD undef = x := by simpa using hr
 simp only [results, h]
 go_simp
def frF (S : List (List Ty)) (g : Gr) : List Int × Nat := frS S g.locals g.params.toNat g.locals.length
def FrEnd (S : List (List Ty)) (Fs : List Gr) (u : AskA) (fn : Int) (w : World) (e : Ending) (w' : World) : Prop :=
 KB F0 w w' ∧ ((¬ (0 ≤ fn ∧ fn < Fs.length ∧ UnitP S Fs u.mn) ∧ e = .returned (.tuple #[.slice none 0 0, .int .i64 0, .int .i64 2])) ∨
  (∃ (k : Nat) (hk : k < Fs.length), fn = (k : Nat) ∧ UnitP S Fs u.mn ∧ ∃ G, w.heap.size ≤ G ∧ e = .returned (.tuple #[.slice (some ⟨G, 0, none⟩) Fs[k].locals.length Fs[k].locals.length, .int .i64 ((frF S Fs[k]).2 : Nat), .int .i64 0]) ∧
   w'.heap[G]? = some (.cells ((frF S Fs[k]).1.map (Value.int .i64)).toArray 3 (0, 0))))
set_option maxRecDepth 100000 in
set_option maxHeartbeats 64000000 in
theorem lyFrame_any (S : List (List Ty)) (Fs : List Gr) (u : AskA) (fn : Int) (w : World) (hU : UnAt S Fs u w) :
  Calls Tryz.prog 26 #[.agg (unC S Fs u), .int .i64 fn] w (FrEnd S Fs u fn w) := by
 obtain ⟨w0, rfl⟩ : ∃ w0, w0 = w := ⟨_, rfl⟩
 obtain ⟨NF, hNF⟩ : ∃ n, n = Fs.length := ⟨_, rfl⟩
 obtain ⟨NS, hNS⟩ : ∃ n, n = S.length := ⟨_, rfl⟩
 have HN := Lib.hid (And.intro hNF hNS)
 obtain ⟨hk, hb1, hb2, hb3, hsz⟩ := new3 w0 #[.slice u.sa NS u.sc, .slice u.fa NF u.fc, .int .i64 u.mn] #[.slice none 0 0] #[.int .i64 0] 49 40 3
 obtain ⟨W, hW⟩ : ∃ W, W = ((w0.alloc (.cells #[.slice u.sa NS u.sc, .slice u.fa NF u.fc, .int .i64 u.mn] 49)).alloc (.cells #[.slice none 0 0] 40)).alloc (.cells #[.int .i64 0] 3) := ⟨_, rfl⟩
 rw [← hW] at hk hb1 hb2 hb3 hsz
 have u0 : W.cell? ⟨w0.heap.size, 0, none⟩ = some (.slice u.sa NS u.sc) := blk_cell hb1 0
 have u1 : W.cell? ⟨w0.heap.size, 1, none⟩ = some (.slice u.fa NF u.fc) := blk_cell hb1 1
 have u2 : W.cell? ⟨w0.heap.size, 2, none⟩ = some (.int .i64 u.mn) := blk_cell hb1 2
 have MY := Lib.hid (grMay_any S Fs u W (hU.kbF hk))
 unfold unC at MY ⊢
 rw [← hNF, ← hNS] at MY ⊢
 have HW := Lib.hid hW
 have HU := Lib.hid hU
 have HB := Lib.hid (And.intro hk (And.intro hb1 (And.intro hb2 (And.intro hb3 hsz))))
 clear hW hk hb1 hb2 hb3 hU hNF hNS hsz
 go_enter Tryz.func26, Tryz.ntmps26
 go_upto_region 1 with fail
 rw [← HW.out]
 have HNOE : Hid (∀ W1, KB F0 W W1 → ¬ (0 ≤ fn ∧ fn < Fs.length ∧ UnitP S Fs u.mn) → ∀ w', w' = (W1.setCell ⟨w0.heap.size + 1, 0, none⟩ (.slice none 0 0)).setCell ⟨w0.heap.size + 1 + 1, 0, none⟩ (.int .i64 0) → FrEnd S Fs u fn w0 (.returned (.tuple #[.slice none 0 0, .int .i64 0, .int .i64 2])) w') := Lib.hid (fun W1 hW1 hno w' hw' => ⟨by
  rw [hw']
  exact kb_new (kb_new (HB.out.1.trans hW1) (by omega) 0 _) (by omega) 0 _, Or.inl ⟨hno, rfl⟩⟩)
 have HCL : Hid (∀ W1, KB F0 W W1 → (W1.cell? ⟨w0.heap.size + 1, 0, none⟩ = some (.slice none 0 0) ∧ W1.frozen? ⟨w0.heap.size + 1, 0, none⟩ = false ∧ W1.cell? ⟨w0.heap.size + 1 + 1, 0, none⟩ = some (.int .i64 0) ∧ W1.frozen? ⟨w0.heap.size + 1 + 1, 0, none⟩ = false ∧ ((W1.setCell ⟨w0.heap.size + 1, 0, none⟩ (.slice none 0 0)).setCell ⟨w0.heap.size + 1 + 1, 0, none⟩ (.int .i64 0)).cell? ⟨w0.heap.size + 1, 0, none⟩ = some (.slice none 0 0) ∧ ((W1.setCell ⟨w0.heap.size + 1, 0, none⟩ (.slice none 0 0)).setCell ⟨w0.heap.size + 1 + 1, 0, none⟩ (.int .i64 0)).cell? ⟨w0.heap.size + 1 + 1, 0, none⟩ = some (.int .i64 0))) := Lib.hid (fun W1 hW1 => by
  have h2 := hW1.heap (fun x => x) HB.out.2.2.1
  have h3 := hW1.heap (fun x => x) HB.out.2.2.2.1
  have e1 := setCell_blk (i := 0) h2 (.slice none 0 0)
  have k1 := kb_set W1 (w0.heap.size + 1) 0 (.slice none 0 0)
  have e2 := k1.heap (by omega) h3
  have k2 := kb_set (W1.setCell ⟨w0.heap.size + 1, 0, none⟩ (.slice none 0 0)) (w0.heap.size + 1 + 1) 0 (.int .i64 0)
  exact ⟨blk_cell h2 0, blk_frozen h2 0, blk_cell h3 0, blk_frozen h3 0, blk_cell (k2.heap (by omega) e1) 0, blk_cell (setCell_blk (i := 0) e2 (.int .i64 0)) 0⟩)
 by_cases f0 : fn < 0
 ·have HNO : Hid (¬ (0 ≤ fn ∧ fn < Fs.length ∧ UnitP S Fs u.mn)) := Lib.hid (fun h => by have := h.1; omega)
  have d0 : decide (fn < 0) = true := decide_eq_true f0
  have HC := HCL.out W (KB.refl _ _)
  obtain ⟨y1, y2, y3, y4, y5, y6⟩ := HC
  have HY := Lib.hid (And.intro y5 y6)
  clear y5 y6
  as_aux_lemma =>
  go_wp2_with fail
  exact ret_fr rfl rfl rfl rfl HY.out.1 HY.out.2 rfl (HNOE.out W (KB.refl _ _) HNO.out _ rfl)
 have d0 : decide (fn < 0) = false := decide_eq_false f0
 by_cases f1 : (NF : Int) ≤ fn
 ·have HNO : Hid (¬ (0 ≤ fn ∧ fn < Fs.length ∧ UnitP S Fs u.mn)) := Lib.hid (fun h => by have h1 := h.2.1; have h2 := HN.out.1; omega)
  have d1 : decide ((NF : Int) ≤ fn) = true := decide_eq_true f1
  obtain ⟨y1, y2, y3, y4, y5, y6⟩ := HCL.out W (KB.refl _ _)
  have HY := Lib.hid (And.intro y5 y6)
  clear y5 y6
  as_aux_lemma =>
  go_wp2_with fail
  exact ret_fr rfl rfl rfl rfl HY.out.1 HY.out.2 rfl (HNOE.out W (KB.refl _ _) HNO.out _ rfl)
 have d1 : decide ((NF : Int) ≤ fn) = false := decide_eq_false f1
 obtain ⟨k, rfl⟩ : ∃ k : Nat, fn = (k : Nat) := ⟨fn.toNat, by omega⟩
 have hkL : k < Fs.length := by rw [← HN.out.1]; omega
 go_wp2_with fail
 refine MY.out.mono ?_
 rintro e w1 ⟨ok, rfl, hok, k1⟩
 have H1 := Lib.hid (And.intro hok (And.intro (HB.out.1.trans k1) (And.intro (k1.heap (fun x => x) HB.out.2.1) (And.intro (k1.heap (fun x => x) HB.out.2.2.1) (k1.heap (fun x => x) HB.out.2.2.2.1)))))
 have HK1 := Lib.hid k1
 clear hok k1 MY u0 u1 u2
 cases ok with
 | false =>
  have HNO : Hid (¬ (0 ≤ ((k : Nat) : Int) ∧ ((k : Nat) : Int) < Fs.length ∧ UnitP S Fs u.mn)) := Lib.hid (fun h => absurd (H1.out.1.2 h.2.2) (by decide))
  obtain ⟨y1, y2, y3, y4, y5, y6⟩ := HCL.out w1 HK1.out
  have HY := Lib.hid (And.intro y5 y6)
  clear y5 y6
  as_aux_lemma =>
  go_wp2_with fail
  exact ret_fr rfl rfl rfl rfl HY.out.1 HY.out.2 rfl (HNOE.out w1 HK1.out HNO.out _ rfl)
 | true =>
 have HUP : Hid (UnitP S Fs u.mn) := Lib.hid (H1.out.1.1 rfl)
 have u1 : w1.cell? ⟨w0.heap.size, 1, none⟩ = some (.slice u.fa NF u.fc) := blk_cell H1.out.2.2.1 1
 obtain ⟨fb, fo, d, hfa, hfc, hG⟩ := HU.out.hF k hkL
 obtain ⟨g, hg⟩ : ∃ g, g = Fs[k] := ⟨_, rfl⟩
 rw [← hg] at hfc hG
 obtain ⟨NL, hNL⟩ : ∃ n, n = g.locals.length := ⟨_, rfl⟩
 obtain ⟨NP, hNP⟩ : ∃ n, n = g.points.length := ⟨_, rfl⟩
 obtain ⟨NN, hNN⟩ : ∃ n, n = g.names.length := ⟨_, rfl⟩
 obtain ⟨NO, hNO⟩ : ∃ n, n = g.outs.length := ⟨_, rfl⟩
 have hc : ∀ j v, (grCs g d)[j]? = some v → w1.cell? ⟨fb, fo + k * 7 + j, none⟩ = some v := fun j v hv => by
  have hj : j < 7 := by
   have := (List.getElem?_eq_some_iff.1 hv).1
   exact this
  have h := hfc j hj
  rw [hv] at h
  exact H1.out.2.1.cell (p := ⟨fb, fo + k * 7 + j, none⟩) (fun x => x) h
 have q0 : w1.cell? ⟨fb, fo + k * 7, none⟩ = some (.string g.name) := hc 0 _ rfl
 have q1 : w1.cell? ⟨fb, fo + k * 7 + 1, none⟩ = some (.int .i64 g.lives) := hc 1 _ rfl
 have q2 : w1.cell? ⟨fb, fo + k * 7 + 2, none⟩ = some (.slice d.oa NO d.oc) := by rw [hNO]; exact hc 2 _ rfl
 have q3 : w1.cell? ⟨fb, fo + k * 7 + 3, none⟩ = some (.int .i64 g.params) := hc 3 _ rfl
 have q4 : w1.cell? ⟨fb, fo + k * 7 + 4, none⟩ = some (.slice d.la NL d.lc) := by rw [hNL]; exact hc 4 _ rfl
 have q5 : w1.cell? ⟨fb, fo + k * 7 + 5, none⟩ = some (.slice d.na NN d.nc) := by rw [hNN]; exact hc 5 _ rfl
 have q6 : w1.cell? ⟨fb, fo + k * 7 + 6, none⟩ = some (.slice d.pa NP d.pc) := by rw [hNP]; exact hc 6 _ rfl
 have HHD : Hid (HeadN g ∧ ∀ t ∈ g.locals, lookB S.length 48 t = true) := Lib.hid (by subst hg; exact ⟨(HUP.out.heads k hkL).1, (headP_all HUP.out.good (HUP.out.heads k hkL)).2⟩)
 have HG := Lib.hid (And.intro hG (And.intro hg (And.intro hNL hkL)))
 rw [hfa] at u1
 rw [hfa]
 have HFA := Lib.hid hfa
 have hkI : (k : Int) < (NF : Int) := by omega
 have hkF : k < NF := by omega
 clear hfc hc hfa hG hg hNP hNN hNO hNL f0 f1 d0 d1
 go_upto_region 4 with fail
 obtain ⟨W2, hW2⟩ : ∃ W2, W2 = w1.alloc (.cells #[.string g.name, .int .i64 g.lives, .slice d.oa NO d.oc, .int .i64 g.params, .slice d.la NL d.lc, .slice d.na NN d.nc, .slice d.pa NP d.pc] 88) := ⟨_, rfl⟩
 have k2 : KB F0 w1 W2 := by rw [hW2]; exact (KB.refl _ _).alloc _
 have b2 : W2.heap[w1.heap.size]? = some (.cells #[.string g.name, .int .i64 g.lives, .slice d.oa NO d.oc, .int .i64 g.params, .slice d.la NL d.lc, .slice d.na NN d.nc, .slice d.pa NP d.pc] 88 (0, 0)) := by rw [hW2]; exact alloc_new _ _
 have hs2 : W2.heap.size = w1.heap.size + 1 := by rw [hW2]; simp
 rw [← hW2]
 obtain ⟨Bg, hBg⟩ : ∃ n, n = w1.heap.size := ⟨_, rfl⟩
 rw [← hBg] at b2 ⊢
 have g4 : W2.cell? ⟨Bg, 4, none⟩ = some (.slice d.la NL d.lc) := blk_cell b2 4
 have hNLb : NL ≤ 512 := by rw [HG.out.2.2.1]; exact HHD.out.1.2.2.2.2.2.1
 have MK := make_ints NL (by omega) 0 W2
 obtain ⟨W3, hW3⟩ : ∃ W3, W3 = W2.alloc (.cells (repC 0 NL 0).toArray 3) := ⟨_, rfl⟩
 have k3 : KB F0 W2 W3 := by rw [hW3]; exact (KB.refl _ _).alloc _
 have b3 : W3.heap[W2.heap.size]? = some (.cells (repC 0 NL 0).toArray 3 (0, 0)) := by rw [hW3]; exact alloc_new _ _
 obtain ⟨G, hGe⟩ : ∃ n, n = W2.heap.size := ⟨_, rfl⟩
 rw [← hGe] at b3 MK
 rw [← hW3] at MK
 have a3 := (k2.trans k3).heap (fun x => x) H1.out.2.2.2.1
 have y1 : W3.cell? ⟨w0.heap.size + 1, 0, none⟩ = some (.slice none 0 0) := blk_cell a3 0
 have y2 := blk_frozen a3 0
 obtain ⟨W4, hW4⟩ : ∃ W4, W4 = W3.setCell ⟨w0.heap.size + 1, 0, none⟩ (.slice (some ⟨G, 0, none⟩) NL NL) := ⟨_, rfl⟩
 obtain ⟨P, hP⟩ : ∃ P : Nat, g.params = (P : Int) := ⟨g.params.toNat, by have := HHD.out.1.2.2.1; omega⟩
 have HP := Lib.hid hP
 have hPb : P ≤ 8 := by have := HHD.out.1.2.2.2.1; omega
 have hPL : P < NL := by have h1 := HHD.out.1.2.2.2.2.1; have h2 := HG.out.2.2.1; omega
 have HGn : Hid (w0.heap.size ≤ G) := Lib.hid (by have h1 := H1.out.2.1.size; omega)
 have H4 : Hid (FrSt S g.locals u.sa u.sc #[.slice u.sa S.length u.sc, .slice (some ⟨fb, fo, none⟩) NF u.fc, .int .i64 u.mn] #[.string g.name, .int .i64 g.lives, .slice d.oa NO d.oc, .int .i64 g.params, .slice d.la g.locals.length d.lc, .slice d.na NN d.nc, .slice d.pa NP d.pc] (w0.heap.size + 1 + 1) (w0.heap.size + 1) w0.heap.size Bg G (frS S g.locals P 0) W4 ∧ KB F0 w0 W4) := by
  have s1 := H1.out.2.1.size
  have s0 := HB.out.2.2.2.2
  have s2 := HK1.out.size
  have k4 := kb_set W3 (w0.heap.size + 1) 0 (.slice (some ⟨G, 0, none⟩) NL NL)
  rw [← hW4] at k4
  have hu := H1.out.2.2.1
  rw [HN.out.2, HFA.out] at hu
  have e4 : W4.heap[w0.heap.size + 1]? = some (.cells #[.slice (some ⟨G, 0, none⟩) NL NL] 40 (0, 0)) := by rw [hW4]; exact setCell_blk (i := 0) a3 _
  rw [HG.out.2.2.1] at b2 e4
  have hnG : G = w1.heap.size + 1 := by omega
  refine Lib.hid ⟨⟨k4.heap (by omega) ((k2.trans k3).heap (fun x => x) H1.out.2.2.2.2), e4, ?_, k4.heap (by omega) ((k2.trans k3).heap (fun x => x) hu), k4.heap (by omega) (k3.heap (fun x => x) b2), by omega, frS_len S g.locals P 0⟩, (H1.out.2.1.trans (k2.trans k3)).oldS k4 (fun k hk e => by omega)⟩
  have h3 := k4.heap (b := G) (by omega) b3
  rw [h3]
  congr 3
  unfold repC
  show _ = (List.replicate g.locals.length (0 : Int)).map _
  rw [← HG.out.2.2.1]
  simp
 clear hP hW2 k2 b2 hs2 hBg hW3 k3 b3 hGe a3 q0 q1 q2 q3 q4 q5 q6 u1
 go_upto_region 6 with fail
 rw [← hW4]
 clear hW4 y1 y2 MK g4
 have FS : Hid (∀ (j i : Nat) (V : World), i = (if j < P then j + 1 else if j = P then 0 else j) → i < NL → j ≤ 600 → FrSt S g.locals u.sa u.sc #[.slice u.sa S.length u.sc, .slice (some ⟨fb, fo, none⟩) NF u.fc, .int .i64 u.mn] #[.string g.name, .int .i64 g.lives, .slice d.oa NO d.oc, .int .i64 g.params, .slice d.la g.locals.length d.lc, .slice d.na NN d.nc, .slice d.pa NP d.pc] (w0.heap.size + 1 + 1) (w0.heap.size + 1) w0.heap.size Bg G (frS S g.locals P j) V → KB F0 w0 V →
   Calls Tryz.prog 54 #[.int .i64 (i : Nat), .pointer (some ⟨w0.heap.size + 1 + 1, 0, none⟩), .pointer (some ⟨w0.heap.size + 1, 0, none⟩), .pointer (some ⟨w0.heap.size, 0, none⟩), .pointer (some ⟨Bg, 0, none⟩)] V fun e V' => e = .returned (.tuple #[]) ∧ FrSt S g.locals u.sa u.sc #[.slice u.sa S.length u.sc, .slice (some ⟨fb, fo, none⟩) NF u.fc, .int .i64 u.mn] #[.string g.name, .int .i64 g.lives, .slice d.oa NO d.oc, .int .i64 g.params, .slice d.la g.locals.length d.lc, .slice d.na NN d.nc, .slice d.pa NP d.pc] (w0.heap.size + 1 + 1) (w0.heap.size + 1) w0.heap.size Bg G (frS S g.locals P (j + 1)) V' ∧ KB F0 w0 V') := Lib.hid (fun j i V hij hi hj hF hK => by
  have hsb := frS_n HUP.out.good g.locals (fun t ht => look_inT (HHD.out.2 t ht)) P j
  refine (frame1_any S HUP.out.good g.locals HHD.out.2 (by rw [← HG.out.2.2.1]; exact hNLb) u.sa u.sc d.la d.lc _ _ _ _ _ _ _ _ _ _ _ _ G (frS S g.locals P j) V w0 HU.out.hS HG.out.1.locals hK (by omega) HGn.out hF i (by rw [← HG.out.2.2.1]; exact hi)).mono ?_
  rintro e V' ⟨h1, h2, h3⟩
  refine ⟨h1, ?_, hK.oldS h3 (fun k hk e => by have := HGn.out; omega)⟩
  rw [frS_succ, ← hij]
  exact h2)
 have g3 : W4.cell? ⟨Bg, 3, none⟩ = some (.int .i64 (P : Nat)) := by rw [← HP.out]; exact blk_cell H4.out.1.gr 3
 go_upto_region 7 with fail
 clear g3
 go_loopg [37] P (fun gg kv wr => ∃ j : Nat, j ≤ P ∧ gg = P - j ∧ kv = .int .i64 (j : Nat) ∧ Hid (FrSt S g.locals u.sa u.sc #[.slice u.sa S.length u.sc, .slice (some ⟨fb, fo, none⟩) NF u.fc, .int .i64 u.mn] #[.string g.name, .int .i64 g.lives, .slice d.oa NO d.oc, .int .i64 g.params, .slice d.la g.locals.length d.lc, .slice d.na NN d.nc, .slice d.pa NP d.pc] (w0.heap.size + 1 + 1) (w0.heap.size + 1) w0.heap.size Bg G (frS S g.locals P j) wr ∧ KB F0 w0 wr))
 case atStart => exact ⟨0, by omega, by omega, rfl, Lib.hid H4.out⟩
 case round =>
  obtain ⟨j, hj, rfl, rfl, hst⟩ := hrel
  by_cases hlt : j < P
  ·as_aux_lemma =>
   have hjI : (j : Int) < (P : Int) := by omega
   have dj : decide ((j : Int) < (P : Int)) = true := decide_eq_true hjI
   have CL := Lib.hid (FS.out j (j + 1) wr (by rw [if_pos hlt]) (by omega) (by omega) hst.out.1 hst.out.2)
   have wj : IntKind.i64.wrap ((j : Int) + 1) = ((j + 1 : Nat) : Int) := by rw [w64 (by omega) (by omega)]; omega
   go_wp2_with fail
   refine CL.out.mono ?_
   rintro e w5 ⟨rfl, h5, k5⟩
   have HN2 := Lib.hid (And.intro h5 k5)
   clear h5 k5 CL
   go_wp2_with fail
   go_roundg (P - (j + 1))
   case measure => omega
   case rel => exact ⟨j + 1, by omega, rfl, by go_num, HN2⟩
  ·obtain rfl : j = P := by omega
   have dj : decide ((j : Int) < (j : Int)) = false := decide_eq_false (by omega)
   have CL := Lib.hid (FS.out j 0 wr (by rw [if_neg (by omega), if_pos rfl]) (by omega) (by omega) hst.out.1 hst.out.2)
   clear hst
   go_wp2_with fail
   refine CL.out.mono ?_
   rintro e w6 ⟨rfl, h6, k6⟩
   have H6 := Lib.hid (And.intro h6 k6)
   have g3 : w6.cell? ⟨Bg, 3, none⟩ = some (.int .i64 (j : Nat)) := by rw [← HP.out]; exact blk_cell h6.gr 3
   have wj : IntKind.i64.wrap ((j : Int) + 1) = ((j + 1 : Nat) : Int) := by rw [w64 (by omega) (by omega)]; omega
   clear h6 k6 CL
   go_upto_region 13 with fail
   clear g3
   obtain ⟨wB, rfl⟩ : ∃ x, x = wr := ⟨_, rfl⟩
   go_loopg [10] (NL - (j + 1)) (fun gg kv wv => ∃ i : Nat, j + 1 ≤ i ∧ i ≤ NL ∧ gg = NL - i ∧ kv = .int .i64 (i : Nat) ∧ Hid (FrSt S g.locals u.sa u.sc #[.slice u.sa S.length u.sc, .slice (some ⟨fb, fo, none⟩) NF u.fc, .int .i64 u.mn] #[.string g.name, .int .i64 g.lives, .slice d.oa NO d.oc, .int .i64 g.params, .slice d.la g.locals.length d.lc, .slice d.na NN d.nc, .slice d.pa NP d.pc] (w0.heap.size + 1 + 1) (w0.heap.size + 1) w0.heap.size Bg G (frS S g.locals j i) wv ∧ KB F0 w0 wv))
   case atStart => exact ⟨j + 1, by omega, by omega, by omega, rfl, Lib.hid H6.out⟩
   case round =>
    obtain ⟨i, hi1, hi2, rfl, rfl, hst⟩ := hrel
    have r4 : wr.cell? ⟨Bg, 4, none⟩ = some (.slice d.la NL d.lc) := by rw [HG.out.2.2.1]; exact blk_cell hst.out.1.gr 4
    by_cases hlt : i < NL
    ·as_aux_lemma =>
     have hiI : (i : Int) < (NL : Int) := by omega
     have di : decide ((i : Int) < (NL : Int)) = true := decide_eq_true hiI
     have CL := Lib.hid (FS.out i i wr (by rw [if_neg (by omega), if_neg (by omega)]) (by omega) (by omega) hst.out.1 hst.out.2)
     have wi : IntKind.i64.wrap ((i : Int) + 1) = ((i + 1 : Nat) : Int) := by rw [w64 (by omega) (by omega)]; omega
     clear hst
     go_wp2_with fail
     refine CL.out.mono ?_
     rintro e w8 ⟨rfl, h8, k8⟩
     have HN2 := Lib.hid (And.intro h8 k8)
     clear h8 k8 CL r4
     go_wp2_with fail
     go_roundg (NL - (i + 1))
     case measure => omega
     case rel => exact ⟨i + 1, by omega, by omega, rfl, by go_num, HN2⟩
    ·obtain rfl : i = NL := by omega
     have di : decide ((i : Int) < (i : Int)) = false := decide_eq_false (by omega)
     have HST := Lib.hid hst.out
     have a0 : wr.cell? ⟨w0.heap.size + 1, 0, none⟩ = some (.slice (some ⟨G, 0, none⟩) i i) := by rw [HG.out.2.2.1]; exact blk_cell hst.out.1.a 0
     have n0 : wr.cell? ⟨w0.heap.size + 1 + 1, 0, none⟩ = some (.int .i64 ((frS S g.locals j i).2 : Nat)) := blk_cell hst.out.1.n 0
     have fa0 := blk_frozen hst.out.1.a 0
     have fn0 := blk_frozen hst.out.1.n 0
     obtain ⟨nn, hnn⟩ : ∃ x, x = (frS S g.locals j i).2 := ⟨_, rfl⟩
     rw [← hnn] at n0
     have HNN := Lib.hid hnn
     obtain ⟨W9, hW9⟩ : ∃ W9, W9 = (wr.setCell ⟨w0.heap.size + 1, 0, none⟩ (.slice (some ⟨G, 0, none⟩) i i)).setCell ⟨w0.heap.size + 1 + 1, 0, none⟩ (.int .i64 (nn : Nat)) := ⟨_, rfl⟩
     have HY : Hid (W9.cell? ⟨w0.heap.size + 1, 0, none⟩ = some (.slice (some ⟨G, 0, none⟩) i i) ∧ W9.cell? ⟨w0.heap.size + 1 + 1, 0, none⟩ = some (.int .i64 (nn : Nat)) ∧ KB F0 w0 W9 ∧ W9.heap[G]? = some (.cells ((frS S g.locals j i).1.map (Value.int .i64)).toArray 3 (0, 0))) := by
      have e1 := setCell_blk (i := 0) hst.out.1.a (.slice (some ⟨G, 0, none⟩) i i)
      have k1 := kb_set wr (w0.heap.size + 1) 0 (.slice (some ⟨G, 0, none⟩) i i)
      have e2 := k1.heap (by omega) hst.out.1.n
      have k2 := kb_set (wr.setCell ⟨w0.heap.size + 1, 0, none⟩ (.slice (some ⟨G, 0, none⟩) i i)) (w0.heap.size + 1 + 1) 0 (.int .i64 (nn : Nat))
      have nG1 : G ≠ w0.heap.size + 1 := fun e => obj_ne hst.out.1.a hst.out.1.g (by decide) e.symm
      have nG2 : G ≠ w0.heap.size + 1 + 1 := hst.out.1.ne.symm
      rw [hW9]
      exact Lib.hid ⟨blk_cell (k2.heap (by omega) e1) 0, blk_cell (setCell_blk (i := 0) e2 _) 0, kb_new (kb_new hst.out.2 (by omega) 0 _) (by omega) 0 _, k2.heap nG2 (k1.heap nG1 hst.out.1.g)⟩
     have HFE : Hid (FrEnd S Fs u (k : Nat) w0 (.returned (.tuple #[.slice (some ⟨G, 0, none⟩) i i, .int .i64 (nn : Nat), .int .i64 0])) W9) := by
      have hL := HG.out.2.2.1
      have hgk := HG.out.2.1
      have hjP : j = g.params.toNat := by have := HP.out; omega
      refine Lib.hid ⟨HY.out.2.2.1, Or.inr ⟨k, HG.out.2.2.2, rfl, HUP.out, G, HGn.out, ?_, ?_⟩⟩
      ·unfold frF
       rw [← hgk, ← hjP, ← hL, HNN.out]
      ·unfold frF
       rw [← hgk, ← hjP, ← hL]
       exact HY.out.2.2.2
     clear hst hnn
     go_upto_region 16 with fail
     go_region
     all_goals
      go_wp2_with fail
      rw [← hW9]
      exact ret_fr (x := .int .i64 0) rfl rfl rfl rfl HY.out.1 HY.out.2.1 rfl ⟨HFE.out.1.drew, HFE.out.2⟩
end Go.Proofs.YtaeppaaolkcbbaaGreatDoor

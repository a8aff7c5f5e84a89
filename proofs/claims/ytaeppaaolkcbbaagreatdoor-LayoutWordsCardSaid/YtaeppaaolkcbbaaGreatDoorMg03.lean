/- types.regions. Structs, plain: what stands in what, how many words. -/
import Derived.Test.YtaeppaaolkcbbaaGreatDoorMg02
import Derived.Test.YtaeppaaolkcbbaaGreatDoorMg00
namespace Go.Proofs.YtaeppaaolkcbbaaGreatDoor
open Go.RowKit

def intsV (l : List Int) : List Value := l.map (Value.int .i64)
theorem Tryz.infoIntV : (Tryz.prog.info? 3).map (fun i => (i.zero, i.size, i.bytes)) = some (some (.int .i64 0), 1, 8) := by kernel_rfl
structure RegAt (w0 w : World) (X : Nat) (xs : List Int) (v : Value) : Prop where
 kb : KB F0 w0 w
 lo : w0.heap.size ≤ X
 cell : w.heap[X]? = some (.cells #[v] 40 (0, 0))
 own : w.ownsRow w0.heap.size 3 1 v xs.length (intsV xs)
set_option maxRecDepth 100000 in
set_option maxHeartbeats 8000000 in
theorem regions1_any (w0 w : World) (X b o : Nat) (xs : List Int) (rg : Int) (v : Value) (hl : xs.length ≤ 1000) (hR : RegAt w0 w X xs v) (hc : w0.cell? ⟨b, o + 2, none⟩ = some (.int .i64 rg)) :
  Calls Tryz.prog 91 #[.pointer (some ⟨b, o, none⟩), .pointer (some ⟨X, 0, none⟩)] w fun e w' => e = .returned (.tuple #[]) ∧ ∃ v', RegAt w0 w' X (xs ++ [rg]) v' := by
 have hc2 := hR.kb.cell (p := ⟨b, o + 2, none⟩) (fun x => x) hc
 have x0 : w.cell? ⟨X, 0, none⟩ = some v := blk_cell hR.cell 0
 obtain ⟨N, hN⟩ : ∃ N, N = xs.length := ⟨_, rfl⟩
 have HR := Lib.hid (And.intro hR hN)
 have hz := hR.kb.size
 obtain ⟨w1, rfl⟩ : ∃ w1, w1 = w := ⟨_, rfl⟩
 rw [← hN] at hl
 clear hc hR hN
 go_enter Tryz.func91, Tryz.ntmps91
 refine wp_region_rv 6 GK (kindW [(5, OneRow w1.heap.size #[.int .i64 rg] 3, OneRowAt w1.heap.size #[.int .i64 rg] 3)]) (by kernel_rfl) (by kernel_rfl) (kb_trans _) (kb_refl _) (kb_start _ _) (kindW_mono _ (by intro p hp; simp only [List.mem_cons, List.not_mem_nil, or_false] at hp; subst hp; exact lasts_row _ _ _)) ?_
 simp only [pT, pU, pV, pW]
 iterate 5 (refine rv_det (by kernel_rfl) rfl (by intro w hG hH; have hc0 := kc hG (x0); have hc1 := kc hG (hc2); go_simp; first | done | with_reducible rfl) ?_; simp only [Act.put, pA, pZ, pS])
 refine rv_rel (by kernel_rfl) rfl ⟨.slice (some ⟨_, 0, none⟩) 1 1, _, rfl, Nat.le_refl _⟩ (fun w hG hH => opVal_row hG (by go_simp; first | done | rfl)) ?_
 rintro v ⟨nb, rfl, hnb⟩
 simp only [Act.put, pA, pZ, pS]
 refine rv_nil (fun w hG hH => ?_)
 have hrow : OneRowAt w1.heap.size #[.int .i64 rg] 3 (.slice (some ⟨nb, 0, none⟩) 1 1) w := hH (5, fun w => OneRowAt w1.heap.size #[.int .i64 rg] 3 (.slice (some ⟨nb, 0, none⟩) 1 1) w) List.mem_cons_self
 obtain ⟨nb', e, -, hrow⟩ := hrow
 simp only [Value.slice.injEq, Option.some.injEq, Addr.mk.injEq, and_true] at e
 subst e
 have HG2 := Lib.hid (And.intro hG (And.intro (own_kb HR.out.1.own hG (fun _ _ x => x)) (hG.heap (fun x => x) HR.out.1.cell)))
 have hsw := hG.size
 clear hG hH hc2
 go_wp2_with (at_builtin; refine Stopped.out ?_)
 refine ⟨?_⟩
 have ho := HG2.out.2.1
 rw [← HR.out.2] at ho
 refine app1 40 3 w0.heap.size (.int .i64 rg) Tryz.infoIntV Tryz.underlying40 rfl ho rfl rfl rfl rfl (blk_cell hrow 0) rfl (by unfold maxLen; omega) (by omega) (by omega) ?_
 intro v' w' hown' hgr
 have hne : ∀ {u : Value} {n : Nat} {ys : List Value} {V : World} {g : Nat} {c : Array Value}, V.heap[g]? = some (.cells c 40 (0, 0)) → V.ownsRow w0.heap.size 3 1 u n ys → u.ownBlock ≠ some g := fun h1 h2 e => by
  obtain ⟨c1, h3, -⟩ := own_block h2 e
  rw [h1] at h3
  simp only [Option.some.injEq, Obj.cells.injEq] at h3
  exact absurd h3.2.1 (by decide)
 have hX2 : w'.heap[X]? = some (.cells #[v] 40 (0, 0)) := by
  rw [hgr.block X (heap_lt HG2.out.2.2) (fun e => hne HG2.out.2.2 ho e.symm)]; exact HG2.out.2.2
 have y0 : w'.cell? ⟨X, 0, none⟩ = some v := blk_cell hX2 0
 have y0f := blk_frozen hX2 0
 have kF : KB F0 w0 w' := (HR.out.1.kb.trans HG2.out.1).grown hgr (fun k e h => by
  obtain ⟨c1, h1, h2⟩ := own_block ho e
  omega)
 obtain ⟨va, vc, e2⟩ : ∃ a c, v' = .slice a (N + 1) c := by
  obtain ⟨a, c, e, -⟩ := own_shape hown'
  exact ⟨a, c, e⟩
 subst e2
 have HE : Hid (RegAt w0 (w'.setCell ⟨X, 0, none⟩ (.slice va (N + 1) vc)) X (xs ++ [rg]) (.slice va (N + 1) vc)) := Lib.hid (by
  refine ⟨kF.setCell (p := ⟨X, 0, none⟩) (fun (h : X < w0.heap.size) => absurd h (by have := HR.out.1.lo; omega)) _, HR.out.1.lo, setCell_blk (i := 0) hX2 _, ?_⟩
  have h1 := own_kb hown' (kb_set w' X 0 (.slice va (N + 1) vc)) (fun g e1 e2 => by subst e2; exact hne hX2 hown' e1)
  rw [List.length_append, show intsV (xs ++ [rg]) = intsV xs ++ [.int .i64 rg] by simp [intsV], ← HR.out.2]
  exact h1)
 clear hown' hgr hX2 hrow x0 kF ho
 go_wp2_with fail
 go_end0
 exact ⟨rfl, _, HE.out⟩
def Deep : Nat → Ty → Prop
 | 0, _ => False
 | n + 1, t => t.of.length = 0 ∨ Deep n (in0 t)
theorem look_deep {S : Nat} : ∀ {n : Nat} {t : Ty}, lookB S n t = true → Deep n t := by
 intro n
 induction n with
 | zero => intro t h; cases h
 | succ n ih =>
  intro t h
  rw [lookB_succ] at h
  by_cases h1 : t.of.length = 1
  ·rw [decide_eq_true h1, Bool.true_and] at h
   cases hq : lookB S n (in0 t) with
   | true => exact Or.inr (ih hq)
   | false =>
    rw [hq] at h
    unfold lookV at h
    simp [h1] at h
  ·refine Or.inl ?_
   rw [decide_eq_false h1, Bool.false_and] at h
   unfold lookV at h
   by_cases h0 : t.of.length = 0
   ·exact h0
   ·simp [h0] at h
def RegEnd (w0 : World) (X : Nat) (xs : List Int) (e : Ending) (w' : World) : Prop := e = .returned (.tuple #[]) ∧ ∃ v', RegAt w0 w' X xs v'
set_option maxRecDepth 100000 in
set_option maxHeartbeats 8000000 in
theorem tyWalk_any (w0 : World) (X : Nat) : ∀ (n : Nat) (t : Ty) (b o : Nat) (a : Option Addr) (c : Nat) (w : World) (xs : List Int) (v : Value), n + xs.length ≤ 1000 → TyCells w0 b o t a c → TyAt n w0 t a c → Deep n t → RegAt w0 w X xs v →
  Calls Tryz.prog 90 #[.pointer (some ⟨b, o, none⟩), .func (.func 91) #[] #[.pointer (some ⟨X, 0, none⟩)]] w (RegEnd w0 X (xs ++ regsF n t)) := by
 intro n
 induction n with
 | zero => intro t b o a c w xs v _ _ _ h; exact h.elim
 | succ n ih =>
  intro t b o a c w xs v hl hc ht hd hR
  obtain ⟨w1, rfl⟩ : ∃ w1, w1 = w := ⟨_, rfl⟩
  obtain ⟨L, hL⟩ : ∃ L, L = t.of.length := ⟨_, rfl⟩
  have hof := hc.of
  rw [← hL] at hof
  have c0 := hR.kb.cell (p := ⟨b, o, none⟩) (fun x => x) hc.k
  have c4 := hR.kb.cell (p := ⟨b, o + 4, none⟩) (fun x => x) hof
  have HC4 := Lib.hid hof
  have hLc : L ≤ c := by rw [hL]; exact ht.1
  clear hof
  by_cases hk : t.k = 4
  ·have R1 := Lib.hid (regions1_any w0 w1 X b o xs t.r v (by omega) hR hc.r)
   rw [hk] at c0
   by_cases h0 : L = 0
   ·subst h0
    have HG : Hid (xs ++ regsF (n + 1) t = (xs ++ [t.r])) := Lib.hid (by simp [regsF, hk, ← hL])
    clear hc ht hd hR hk hLc ih hL
    go_enter Tryz.func90, Tryz.ntmps90
    go_wp2_with fail
    refine R1.out.mono ?_
    rintro e w2 ⟨rfl, v2, h2⟩
    have d4 := h2.kb.cell (p := ⟨b, o + 4, none⟩) (fun x => x) HC4.out
    have H2 := Lib.hid h2
    clear h2 c0 c4
    go_wp2_with fail
    go_end0
    exact ⟨rfl, _, by rw [HG.out]; exact H2.out⟩
   ·have hl0 : 0 < t.of.length := by omega
    have HG : Hid (xs ++ regsF (n + 1) t = (xs ++ [t.r]) ++ regsF n (in0 t)) := Lib.hid (by simp [regsF, hk, ← hL, h0])
    obtain ⟨b', o', a', c', rfl, ic, iw⟩ := ht.in0 hl0
    have hd' : Deep n (in0 t) := hd.resolve_left (by omega)
    have IH := Lib.hid (fun (V : World) (v' : Value) (hV : RegAt w0 V X (xs ++ [t.r]) v') => ih (in0 t) b' o' a' c' V (xs ++ [t.r]) v' (by first | omega | (simp; omega)) ic iw hd' hV)
    have g1 : (0 : Int) < (L : Int) := by omega
    have g2 : decide ((0 : Int) < (L : Int)) = true := decide_eq_true g1
    have g3 : 0 < L := by omega
    clear hc ht hd hR hk hLc ih hL h0 hl0 ic iw hd'
    go_enter Tryz.func90, Tryz.ntmps90
    go_wp2_with fail
    refine R1.out.mono ?_
    rintro e w2 ⟨rfl, v2, h2⟩
    have d4 := h2.kb.cell (p := ⟨b, o + 4, none⟩) (fun x => x) HC4.out
    have H2 := Lib.hid h2
    clear h2 c0 c4
    go_wp2_with fail
    refine (IH.out _ _ H2.out).mono ?_
    rintro e w3 ⟨rfl, v3, h3⟩
    have H3 := Lib.hid h3
    clear h3 d4
    go_wp2_with fail
    go_end0
    exact ⟨rfl, _, by rw [HG.out]; exact H3.out⟩
  ·have hk4 : (t.k == 4) = false := by simpa using hk
   have H2 := Lib.hid hR
   generalize t.k = k at c0 hk4
   by_cases h0 : L = 0
   ·subst h0
    have HG : Hid (xs ++ regsF (n + 1) t = xs) := Lib.hid (by simp [regsF, hk, ← hL])
    clear hc ht hd hR hk hLc ih hL
    go_enter Tryz.func90, Tryz.ntmps90
    go_wp2_with fail
    go_end0
    exact ⟨rfl, _, by rw [HG.out]; exact H2.out⟩
   ·have hl0 : 0 < t.of.length := by omega
    have HG : Hid (xs ++ regsF (n + 1) t = xs ++ regsF n (in0 t)) := Lib.hid (by simp [regsF, hk, ← hL, h0])
    obtain ⟨b', o', a', c', rfl, ic, iw⟩ := ht.in0 hl0
    have hd' : Deep n (in0 t) := hd.resolve_left (by omega)
    have IH := Lib.hid (fun (V : World) (v' : Value) (hV : RegAt w0 V X xs v') => ih (in0 t) b' o' a' c' V xs v' (by first | omega | (simp; omega)) ic iw hd' hV)
    have g1 : (0 : Int) < (L : Int) := by omega
    have g2 : decide ((0 : Int) < (L : Int)) = true := decide_eq_true g1
    have g3 : 0 < L := by omega
    clear hc ht hd hR hk hLc ih hL h0 hl0 ic iw hd'
    go_enter Tryz.func90, Tryz.ntmps90
    go_wp2_with fail
    refine (IH.out _ _ H2.out).mono ?_
    rintro e w3 ⟨rfl, v3, h3⟩
    have H3 := Lib.hid h3
    clear h3 c0 c4
    go_wp2_with fail
    go_end0
    exact ⟨rfl, _, by rw [HG.out]; exact H3.out⟩
set_option maxRecDepth 100000 in
set_option maxHeartbeats 8000000 in
theorem regions_any (n : Nat) (hn : n ≤ 900) (t : Ty) (a : Option Addr) (c : Nat) (w : World) (ht : TyAt n w t a c) (hd : Deep n t) :
  Calls Tryz.prog 68 #[tyV t a c] w fun e w' => ∃ v, e = .returned v ∧ w'.ownsRow w.heap.size 3 1 v (regsF n t).length (intsV (regsF n t)) ∧ KB F0 w w' := by
 obtain ⟨w0, rfl⟩ : ∃ w0, w0 = w := ⟨_, rfl⟩
 obtain ⟨kb, hb⟩ := boxTy w0 t a c
 obtain ⟨W1, hW1⟩ : ∃ W, W = w0.alloc (.cells #[.int .u8 t.k, .bool t.m, .int .i64 t.r, .int .i64 t.s, .slice a t.of.length c] 26) := ⟨_, rfl⟩
 rw [← hW1] at kb hb
 obtain ⟨W2, hW2⟩ : ∃ W, W = W1.alloc (.cells #[.slice none 0 0] 40) := ⟨_, rfl⟩
 have k2 := (KB.refl F0 W1).alloc (.cells #[.slice none 0 0] 40)
 have hb2 := alloc_new W1 (.cells #[.slice none 0 0] 40)
 rw [← hW2] at k2 hb2
 have hR : RegAt W1 W2 W1.heap.size [] (.slice none 0 0) := ⟨k2, Nat.le_refl _, hb2, World.ownsRow_nil _ _ _ _⟩
 have CL := Lib.hid (tyWalk_any W1 W1.heap.size n t w0.heap.size 0 a c W2 [] _ (by simp; omega) (TyCells.of_block hb) (ht.kbF kb) hd hR)
 have HW := Lib.hid (And.intro hW1 hW2)
 have HK := Lib.hid kb
 clear kb hb k2 hb2 hR ht hd
 unfold tyV
 go_enter Tryz.func68, Tryz.ntmps68
 go_upto_region 1 with fail
 rw [← hW1]
 clear hW1
 go_upto_region 2 with fail
 rw [← hW2]
 clear hW2
 go_wp2_with fail
 refine CL.out.mono ?_
 rintro e w3 ⟨rfl, v, h3⟩
 have x0 : w3.cell? ⟨W1.heap.size, 0, none⟩ = some v := blk_cell h3.cell 0
 have H3 := Lib.hid h3
 clear h3
 go_wp2_with fail
 go_ret
 exact ⟨_, rfl, own_base H3.out.own HK.out.size, HK.out.trans H3.out.kb⟩

def fds (S : List (List Ty)) (i : Nat) : List Ty := S.getD i []
inductive Rch (S : List (List Ty)) : Nat → Nat → Prop
 | one {i : Nat} {f : Ty} (hf : f ∈ fds S i) (hk : f.k = 5) : Rch S i f.s.toNat
 | more {i j : Nat} {f : Ty} (h : Rch S i j) (hf : f ∈ fds S j) (hk : f.k = 5) : Rch S i f.s.toNat
theorem Rch.trans {S : List (List Ty)} {i j k : Nat} (h : Rch S i j) (h2 : Rch S j k) : Rch S i k := by
 induction h2 with
 | one hf hk => exact .more h hf hk
 | more _ hf hk ih => exact .more ih hf hk
noncomputable def endB (S : List (List Ty)) (i : Nat) : Bool := @decide (Rch S i i) (Classical.propDecidable _)
theorem endB_iff {S : List (List Ty)} {i : Nat} : endB S i = true ↔ Rch S i i := by unfold endB; simp
def InR (S : List (List Ty)) : Prop := ∀ i, ∀ f ∈ fds S i, f.k = 5 → 0 ≤ f.s ∧ f.s < (S.length : Int)
theorem InR.lt {S : List (List Ty)} (h : InR S) {i : Nat} {f : Ty} (hf : f ∈ fds S i) (hk : f.k = 5) : f.s.toNat < S.length := by have := h i f hf hk; omega
theorem Rch.lt {S : List (List Ty)} (h : InR S) {i j : Nat} (hr : Rch S i j) : j < S.length := by
 cases hr with
 | one hf hk => exact h.lt hf hk
 | more _ hf hk => exact h.lt hf hk
def atB (M : List Bool) (j : Nat) : Bool := M.getD j false
theorem atB_set {M : List Bool} {i j : Nat} (hi : i < M.length) : atB (M.set i true) j = (atB M j || decide (j = i)) := by
 unfold atB
 rw [List.getD_eq_getElem?_getD, List.getD_eq_getElem?_getD]
 by_cases h : j = i
 ·subst h; simp [hi]
 ·rw [List.getElem?_set_ne (fun e => h e.symm)]; simp [h]
theorem atB_rep (n j : Nat) : atB (List.replicate n false) j = false := by
 unfold atB; rw [List.getD_eq_getElem?_getD, List.getElem?_replicate]; split <;> rfl
def Shut (S : List (List Ty)) (n : Nat) (M : List Bool) (ws : Nat → Prop) : Prop := ∀ u, (u = n ∨ atB M u = true) → ws u ∨ ∀ f ∈ fds S u, f.k = 5 → atB M f.s.toNat = true
structure Met (S : List (List Ty)) (n : Nat) (M : List Bool) : Prop where
 len : M.length = 32
 ok : ∀ j, atB M j = true → Rch S n j
theorem met_start (S : List (List Ty)) (n : Nat) : Met S n (List.replicate 32 false) := ⟨by simp, fun j h => by rw [atB_rep] at h; cases h⟩
theorem Met.set {S : List (List Ty)} {n : Nat} {M : List Bool} (h : Met S n M) {j : Nat} (hj : j < 32) (hr : Rch S n j) : Met S n (M.set j true) :=
 ⟨by simp [h.len], fun i hi => by
  rw [atB_set (by rw [h.len]; exact hj)] at hi
  simp only [Bool.or_eq_true, decide_eq_true_eq] at hi
  rcases hi with hi | rfl
  ·exact h.ok i hi
  ·exact hr⟩
theorem Met.done {S : List (List Ty)} {n : Nat} {M : List Bool} (h : Met S n M) (hs : Shut S n M (fun _ => False)) : ∀ j, Rch S n j → atB M j = true := by
 intro j hr
 induction hr with
 | one hf hk => exact (hs n (Or.inl rfl)).resolve_left (fun x => x) _ hf hk
 | more _ hf hk ih => exact (hs _ (Or.inr ih)).resolve_left (fun x => x) _ hf hk
theorem Met.end_ {S : List (List Ty)} {n : Nat} {M : List Bool} (h : Met S n M) (hs : Shut S n M (fun _ => False)) : atB M n = endB S n := by
 rw [Bool.eq_iff_iff, endB_iff]
 exact ⟨h.ok n, h.done hs n⟩
def left (M : List Bool) : Nat := M.count false
theorem left_set : ∀ {M : List Bool} {j : Nat}, j < M.length → atB M j = false → left (M.set j true) + 1 = left M := by
 intro M
 induction M with
 | nil => intro j h; simp at h
 | cons b M ih =>
  intro j hj hf
  cases j with
  | zero =>
   unfold atB at hf
   simp only [List.getD_cons_zero] at hf
   subst hf
   simp [left]
  | succ j =>
   have := ih (j := j) (by simpa using hj) (by simpa [atB] using hf)
   unfold left at *
   rw [List.set_cons_succ, List.count_cons, List.count_cons]
   omega
theorem left_same {M : List Bool} {j : Nat} (h : atB M j = true) : M.set j true = M := by
 apply List.ext_getElem (by simp)
 intro i h1 h2
 rw [List.getElem_set]
 split
 ·rename_i e; subst e
  unfold atB at h
  rw [List.getD_eq_getElem?_getD, List.getElem?_eq_getElem h2] at h
  simpa using h.symm
 ·rfl
theorem left_le {M : List Bool} {j : Nat} (hj : j < M.length) : left (M.set j true) ≤ left M := by
 cases h : atB M j with
 | true => rw [left_same h]; exact Nat.le_refl _
 | false => have := left_set hj h; omega
def Rounds (S : List (List Ty)) (n : Nat) (M : List Bool) (r : Nat) : Prop := Shut S n M (fun _ => False) ∨ left M + r ≤ 32
def Grow (A B : List Bool) : Prop := B.length = A.length ∧ left B ≤ left A ∧ ∀ j, atB A j = true → atB B j = true
theorem Grow.refl (A : List Bool) : Grow A A := ⟨rfl, Nat.le_refl _, fun _ h => h⟩
theorem Grow.set {A B : List Bool} (h : Grow A B) {j : Nat} (hj : j < B.length) : Grow A (B.set j true) :=
 ⟨by rw [List.length_set]; exact h.1, Nat.le_trans (left_le hj) h.2.1, fun i hi => by rw [atB_set hj, h.2.2 i hi]; rfl⟩
theorem grow_left : ∀ {A B : List Bool}, A.length = B.length → (∀ j, atB A j = true → atB B j = true) → (∃ j, j < A.length ∧ atB A j = false ∧ atB B j = true) → left B + 1 ≤ left A := by
 intro A
 induction A with
 | nil => intro B _ _ ⟨j, hj, _⟩; simp at hj
 | cons a A ih =>
  intro B hl hs hx
  cases B with
  | nil => simp at hl
  | cons b B =>
   have hl' : A.length = B.length := by simpa using hl
   have hs' : ∀ j, atB A j = true → atB B j = true := fun j h => hs (j + 1) h
   have h0 : a = true → b = true := hs 0
   have hle : ∀ {A B : List Bool}, A.length = B.length → (∀ j, atB A j = true → atB B j = true) → left B ≤ left A := by
    intro A
    induction A with
    | nil => intro B hl _; cases B with
     | nil => exact Nat.le_refl _
     | cons => simp at hl
    | cons a A ih =>
     intro B hl hs
     cases B with
     | nil => simp at hl
     | cons b B =>
      have := ih (B := B) (by simpa using hl) (fun j h => hs (j + 1) h)
      have h0 : a = true → b = true := hs 0
      unfold left at *
      rw [List.count_cons, List.count_cons]
      cases a <;> cases b <;> simp_all <;> omega
   obtain ⟨j, hj, h1, h2⟩ := hx
   cases j with
   | zero =>
    have h1' : a = false := h1
    have h2' : b = true := h2
    subst h1' h2'
    have := hle hl' hs'
    unfold left at *
    rw [List.count_cons, List.count_cons]
    simp; omega
   | succ j =>
    have := ih hl' hs' ⟨j, by simpa using hj, h1, h2⟩
    unfold left at *
    rw [List.count_cons, List.count_cons]
    cases a <;> cases b <;> simp_all <;> omega
theorem Rounds.next {S : List (List Ty)} {n : Nat} (hS : InR S) (h32 : S.length ≤ 32) {A B : List Bool} {r : Nat} (hA : A.length = 32) (h : Rounds S n A r) (hg : Grow A B)
  (hst : ∀ u, u < S.length → (u = n ∨ atB A u = true) → ∀ f ∈ fds S u, f.k = 5 → atB B f.s.toNat = true) (hn : n < S.length) (hlt : ∀ j, atB A j = true → j < S.length) (hm : ∀ j, atB B j = true → Rch S n j) : Rounds S n B (r + 1) := by
 by_cases hs : Shut S n A (fun _ => False)
 ·refine Or.inl ?_
  have hAB : ∀ j, atB B j = true → atB A j = true := fun j hj => by
   have hr := hm j hj
   induction hr with
   | one hf hk => exact (hs n (Or.inl rfl)).resolve_left (fun x => x) _ hf hk
   | more hr' hf hk ih => exact (hs _ (Or.inr (ih (by
     have : ∀ j, Rch S n j → atB A j = true := fun j hr => by
      induction hr with
      | one hf hk => exact (hs n (Or.inl rfl)).resolve_left (fun x => x) _ hf hk
      | more _ hf hk ih => exact (hs _ (Or.inr ih)).resolve_left (fun x => x) _ hf hk
     exact hg.2.2 _ (this _ hr'))))).resolve_left (fun x => x) _ hf hk
  intro u hu
  refine Or.inr (fun f hf hk => hg.2.2 _ ((hs u (hu.imp id (hAB u))).resolve_left (fun x => x) f hf hk))
 ·have hx : ∃ u, (u = n ∨ atB A u = true) ∧ ∃ f ∈ fds S u, f.k = 5 ∧ atB A f.s.toNat = false := by
   apply Classical.byContradiction
   intro hne
   apply hs
   intro u hu
   refine Or.inr (fun f hf hk => ?_)
   cases hb : atB A f.s.toNat with
   | true => rfl
   | false => exact (hne ⟨u, hu, f, hf, hk, hb⟩).elim
  obtain ⟨u, hu, f, hf, hk, hb⟩ := hx
  have hul : u < S.length := hu.elim (fun e => e ▸ hn) (hlt u)
  have hl := grow_left hg.1.symm hg.2.2 ⟨f.s.toNat, by have := hS.lt hf hk; omega, hb, hst u hul hu f hf hk⟩
  rcases h with h | h
  ·exact (hs h).elim
  ·exact Or.inr (by omega)
def FinD (S : List (List Ty)) : Nat → Ty → Prop
 | 0, _ => False
 | n + 1, t => t.k = 5 → ∀ f ∈ fds S t.s.toNat, FinD S n f
theorem FinD.le {S : List (List Ty)} : ∀ {n m : Nat} {t : Ty}, FinD S n t → n ≤ m → FinD S m t := by
 intro n
 induction n with
 | zero => intro m t h; exact h.elim
 | succ n ih =>
  intro m t h hm
  cases m with
  | zero => omega
  | succ m => exact fun hk f hf => ih (h hk f hf) (by omega)
noncomputable def cnt (S : List (List Ty)) (i : Nat) : Nat := ((List.range S.length).filter (fun j => @decide (Rch S i j) (Classical.propDecidable _))).length
theorem filter_lt {α : Type} {p q : α → Bool} : ∀ {l : List α}, (∀ x ∈ l, p x = true → q x = true) → (∃ x ∈ l, p x = false ∧ q x = true) → (l.filter p).length < (l.filter q).length := by
 intro l
 induction l with
 | nil => intro _ ⟨x, hx, _⟩; cases hx
 | cons a l ih =>
  intro h hx
  have hle : ∀ {l : List α}, (∀ x ∈ l, p x = true → q x = true) → (l.filter p).length ≤ (l.filter q).length := by
   intro l
   induction l with
   | nil => intro _; exact Nat.le_refl _
   | cons a l ih =>
    intro h
    have h1 := ih (fun x hx => h x (List.mem_cons_of_mem _ hx))
    have h2 := h a List.mem_cons_self
    rw [List.filter_cons, List.filter_cons]
    cases hp : p a <;> cases hq : q a <;> simp_all <;> omega
  have h1 := hle (fun x hx => h x (List.mem_cons_of_mem _ hx))
  have h2 := h a List.mem_cons_self
  obtain ⟨x, hx, hpx, hqx⟩ := hx
  rcases List.mem_cons.1 hx with rfl | hx
  ·rw [List.filter_cons, List.filter_cons, if_neg (by rw [hpx]; decide), if_pos hqx, List.length_cons]; omega
  ·have h3 := ih (fun x hx => h x (List.mem_cons_of_mem _ hx)) ⟨x, hx, hpx, hqx⟩
   rw [List.filter_cons, List.filter_cons]
   cases hp : p a <;> cases hq : q a <;> simp_all <;> omega
theorem cnt_lt {S : List (List Ty)} (hS : InR S) (hE : ∀ i, i < S.length → ¬ Rch S i i) {i : Nat} {f : Ty} (hf : f ∈ fds S i) (hk : f.k = 5) : cnt S f.s.toNat < cnt S i := by
 have hl := hS.lt hf hk
 refine filter_lt (fun j _ h => ?_) ⟨f.s.toNat, List.mem_range.2 hl, ?_, ?_⟩
 ·simp only [decide_eq_true_eq] at h ⊢
  exact (Rch.one hf hk).trans h
 ·simpa using hE _ hl
 ·simpa using Rch.one hf hk
theorem finD_cnt {S : List (List Ty)} (hS : InR S) (hE : ∀ i, i < S.length → ¬ Rch S i i) : ∀ (n : Nat) (t : Ty), (t.k = 5 → cnt S t.s.toNat < n) → FinD S (n + 1) t := by
 intro n
 induction n with
 | zero => intro t h hk; exact absurd (h hk) (by omega)
 | succ n ih =>
  intro t h hk f hf
  exact ih f (fun hkf => by have := cnt_lt hS hE hf hkf; have := h hk; omega)
theorem cnt_le (S : List (List Ty)) (i : Nat) : cnt S i ≤ S.length := by
 unfold cnt
 exact Nat.le_trans (List.length_filter_le _ _) (by simp)
theorem finD_all {S : List (List Ty)} (hS : InR S) (hE : ∀ i, i < S.length → endB S i = false) (t : Ty) : FinD S (S.length + 2) t :=
 finD_cnt hS (fun i hi h => by have := endB_iff.2 h; rw [hE i hi] at this; cases this) _ t (fun _ => by have := cnt_le S t.s.toNat; omega)
def wF (S : List (List Ty)) : Nat → Ty → Nat
 | 0, _ => 0
 | n + 1, t => if t.k = 5 then ((fds S t.s.toNat).map (wF S n)).sum else 1
theorem wF_fin {S : List (List Ty)} : ∀ {n m : Nat} {t : Ty}, FinD S n t → n ≤ m → wF S m t = wF S n t := by
 intro n
 induction n with
 | zero => intro m t h; exact h.elim
 | succ n ih =>
  intro m t h hm
  cases m with
  | zero => omega
  | succ m =>
   unfold wF
   split
   ·rename_i hk
    congr 1
    exact List.map_congr_left fun f hf => ih (h hk f hf) (by omega)
   ·rfl
theorem sum_take_succ {l : List Nat} {i : Nat} (h : i < l.length) : (l.take (i + 1)).sum = (l.take i).sum + l.getD i 0 := by
 rw [List.take_succ_eq_append_getElem h, List.sum_append, List.getD_eq_getElem?_getD, List.getElem?_eq_getElem h]; simp
theorem sum_take_le {l : List Nat} (i : Nat) : (l.take i).sum ≤ l.sum := by
 have := List.sum_append (l₁ := l.take i) (l₂ := l.drop i)
 rw [List.take_append_drop] at this; omega
end Go.Proofs.YtaeppaaolkcbbaaGreatDoor

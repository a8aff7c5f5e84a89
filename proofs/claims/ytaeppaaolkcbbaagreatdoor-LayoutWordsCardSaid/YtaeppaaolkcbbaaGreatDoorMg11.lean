/- A place's way among types, plain; what memory holds of it. Types that are not deep: at any depth they lie so. types.own, types.Own. -/
import Derived.Test.YtaeppaaolkcbbaaGreatDoorMg10
import Derived.Test.YtaeppaaolkcbbaaGreatDoorMg08
namespace Go.Proofs.YtaeppaaolkcbbaaGreatDoor
open Go.RowKit

def stepP (S : List (List Ty)) (t : Ty) (k : Int) : Option (Ty × Int) :=
 if k = -1 ∧ t.k = 3 then some (in0 t, 1)
 else if k = -1 ∧ t.k = 4 ∧ t.m = true then some (in0 t, 2)
 else if k = -1 ∧ t.k = 4 then some (in0 t, 3)
 else if t.k ≠ 5 ∨ k < 0 ∨ ((fds S t.s.toNat).length : Int) ≤ k then none
 else some ((fds S t.s.toNat).getD k.toNat ty0, 0)
def walkN (S : List (List Ty)) (t0 : Ty) (path : List Int) : Nat → Option (Ty × List Int)
 | 0 => some (t0, [])
 | i + 1 => (walkN S t0 path i).bind fun x => (stepP S x.1 (path.getD i 0)).map fun y => (y.1, x.2 ++ [y.2])
theorem walkN_none {S : List (List Ty)} {t0 : Ty} {path : List Int} {i j : Nat} (h : walkN S t0 path i = none) (hij : i ≤ j) : walkN S t0 path j = none := by
 induction j with
 | zero => obtain rfl : i = 0 := by omega
           exact h
 | succ j ih =>
  rcases Nat.lt_or_eq_of_le hij with h1 | rfl
  ·simp [walkN, ih (by omega)]
  ·exact h
theorem walkN_step {S : List (List Ty)} {t0 t u : Ty} {path : List Int} {i : Nat} {hs : List Int} {x : Int} (h : walkN S t0 path i = some (t, hs)) (hk : stepP S t (path.getD i 0) = some (u, x)) : walkN S t0 path (i + 1) = some (u, hs ++ [x]) := by
 simp only [walkN, h, Option.bind_some, hk, Option.map_some]
theorem walkN_stop {S : List (List Ty)} {t0 t : Ty} {path : List Int} {i : Nat} {hs : List Int} (h : walkN S t0 path i = some (t, hs)) (hk : stepP S t (path.getD i 0) = none) : walkN S t0 path (i + 1) = none := by
 simp only [walkN, h, Option.bind_some, hk, Option.map_none]
theorem walkN_len {S : List (List Ty)} {t0 : Ty} {path : List Int} : ∀ {i : Nat} {t : Ty} {hs : List Int}, walkN S t0 path i = some (t, hs) → hs.length = i := by
 intro i
 induction i with
 | zero => intro t hs h; simp only [walkN, Option.some.injEq, Prod.mk.injEq] at h; rw [← h.2]; rfl
 | succ i ih =>
  intro t hs h
  simp only [walkN] at h
  cases hw : walkN S t0 path i with
  | none => rw [hw] at h; cases h
  | some x =>
   rw [hw] at h
   simp only [Option.bind_some, Option.map_eq_some_iff] at h
   obtain ⟨y, -, e⟩ := h
   have := ih (t := x.1) (hs := x.2) hw
   simp only [Prod.mk.injEq] at e
   rw [← e.2, List.length_append, this]; rfl
def MayP (S : List (List Ty)) (L : List Ty) (p : Pl) : Prop := (0 ≤ p.loc ∧ p.loc < (L.length : Int)) ∧ p.path.length ≤ 8 ∧ AllT S L
noncomputable def wkP (S : List (List Ty)) (L : List Ty) (p : Pl) : Option (Ty × List Int) :=
 @ite _ (MayP S L p) (Classical.propDecidable _) (walkN S (L.getD p.loc.toNat ty0) p.path p.path.length) none
theorem wkP_pos {S : List (List Ty)} {L : List Ty} {p : Pl} (h : MayP S L p) : wkP S L p = walkN S (L.getD p.loc.toNat ty0) p.path p.path.length := by unfold wkP; rw [if_pos h]
theorem wkP_neg {S : List (List Ty)} {L : List Ty} {p : Pl} (h : ¬ MayP S L p) : wkP S L p = none := by unfold wkP; rw [if_neg h]
def OnWay (S : List (List Ty)) (w : World) (t : Ty) (ta : Option Addr) (tc : Nat) : Prop := ∃ d, d ≤ 48 ∧ lookB S.length d t = true ∧ TyAt (d + 1) w t ta tc
theorem look_in0 {n d : Nat} {t : Ty} (h : lookB n d t = true) (hk : t.k = 3 ∨ t.k = 4) : ∃ e, d = e + 1 ∧ t.of.length = 1 ∧ lookB n e (in0 t) = true := by
 cases d with
 | zero => cases h
 | succ e =>
  rw [lookB_succ] at h
  refine ⟨e, rfl, ?_⟩
  by_cases h1 : t.of.length = 1
  ·rw [decide_eq_true h1, Bool.true_and] at h
   refine ⟨h1, ?_⟩
   unfold lookV at h
   rcases hk with hk | hk <;> simp [hk] at h <;> simp [h]
  ·rw [decide_eq_false h1, Bool.false_and] at h
   unfold lookV at h
   rcases hk with hk | hk <;> simp [hk] at h
theorem OnWay.deref {S : List (List Ty)} {w : World} {t : Ty} {ta : Option Addr} {tc : Nat} (h : OnWay S w t ta tc) (hk : t.k = 3 ∨ t.k = 4) :
  ∃ b o a c, ta = some ⟨b, o, none⟩ ∧ t.of.length = 1 ∧ 1 ≤ tc ∧ TyCells w b o (in0 t) a c ∧ OnWay S w (in0 t) a c := by
 obtain ⟨d, hd, hl, ht⟩ := h
 obtain ⟨e, rfl, h1, hi⟩ := look_in0 hl hk
 obtain ⟨b, o, a, c, h2, h3, h4⟩ := ht.in0 (by omega)
 exact ⟨b, o, a, c, h2, h1, by have := ht.1; omega, h3, e, by omega, hi, h4⟩
theorem look_struct {n d : Nat} {t : Ty} (h : lookB n d t = true) (hk : t.k = 5) : 0 ≤ t.s ∧ t.s < (n : Int) := by
 cases d with
 | zero => cases h
 | succ e =>
  rw [lookB_succ] at h
  unfold lookV at h
  simp [hk] at h
  exact ⟨h.2.2.1, h.2.2.2⟩
theorem OnWay.field {S : List (List Ty)} (hg : GoodS S) {w : World} {t : Ty} {ta sa : Option Addr} {tc : Nat} (h : OnWay S w t ta tc) (hS : StsAt 49 w sa S) (hk : t.k = 5) {j : Nat} (hj : j < (fds S t.s.toNat).length) :
  ∃ u sb so fb fo fc a c, t.s = (u : Nat) ∧ u < S.length ∧ sa = some ⟨sb, so, none⟩ ∧ w.cell? ⟨sb, so + u * 2 + 1, none⟩ = some (.slice (some ⟨fb, fo, none⟩) (fds S t.s.toNat).length fc) ∧ (fds S t.s.toNat).length ≤ fc ∧
   TyCells w fb (fo + j * 6 + 1) ((fds S t.s.toNat).getD j ty0) a c ∧ OnWay S w ((fds S t.s.toNat).getD j ty0) a c := by
 obtain ⟨d, hd, hl, ht⟩ := h
 have hs := look_struct hl hk
 obtain ⟨u, hu⟩ : ∃ u : Nat, t.s = u := ⟨t.s.toNat, by omega⟩
 have hun : t.s.toNat = u := by omega
 rw [hun] at hj ⊢
 obtain ⟨sb, so, nm, fa, fc, rfl, -, h1, h2, h3⟩ := hS u (by omega)
 obtain ⟨fb, fo, fnm, a, c, rfl, -, h4, h5⟩ := h3 j hj
 refine ⟨u, sb, so, fb, fo, fc, a, c, hu, by omega, rfl, h1, h2, h4, 48, Nat.le_refl _, ?_, h5⟩
 have hm : (fds S u).getD j ty0 ∈ fds S u := getD_mem hj
 have := (sB1_fds (hg.b1 u (by omega))).2.2 _ hm
 rw [mayB_bare] at this
 simp only [Bool.and_eq_true] at this
 exact this.1
theorem ret_tyI3 {fn : Func} {R : Ending → World → Prop} {a : Act} {w : World} {p q q2 X : Nat} {k : Int} {m : Bool} {r s : Int} {v u u2 : Value} (h : fn.results = #[.cell p 26, .tmp q, .tmp q2]) (hp : a.tmps.getD p undef = .pointer (some ⟨X, 0, none⟩)) (hq : a.tmps.getD q undef = u) (hq2 : a.tmps.getD q2 undef = u2)
  (hc : w.heap[X]? = some (.cells #[.int .u8 k, .bool m, .int .i64 r, .int .i64 s, v] 26 (0, 0))) (hd : a.defers = []) (hR : R (.returned (.tuple #[.agg #[.int .u8 k, .bool m, .int .i64 r, .int .i64 s, v], u, u2])) w) : bodyPost Tryz.prog fn R .ret a w := by
 refine bodyPost_ret (v := .tuple #[.agg #[.int .u8 k, .bool m, .int .i64 r, .int .i64 s, v], u, u2]) ?_ hd hR
 have hp' : a.tmps[p]?.getD undef = .pointer (some ⟨X, 0, none⟩) := by simpa using hp
 have hq' : a.tmps[q]?.getD undef = u := by simpa using hq
 have hq2' : a.tmps[q2]?.getD undef = u2 := by simpa using hq2
 have c0 : w.cell? ⟨X, 0, none⟩ = some (.int .u8 k) := blk_cell hc 0
 have c1 : w.cell? ⟨X, 1, none⟩ = some (.bool m) := blk_cell hc 1
 have c2 : w.cell? ⟨X, 2, none⟩ = some (.int .i64 r) := blk_cell hc 2
 have c3 : w.cell? ⟨X, 3, none⟩ = some (.int .i64 s) := blk_cell hc 3
 have c4 : w.cell? ⟨X, 4, none⟩ = some v := blk_cell hc 4
 simp only [results, h]
 go_simp
def WkEnd (S : List (List Ty)) (w : World) (o : Option (Ty × List Int)) (e : Ending) (w' : World) : Prop := KB F0 w w' ∧
 match o with
 | none => e = .returned (.tuple #[.agg #[.int .u8 0, .bool false, .int .i64 0, .int .i64 0, .slice none 0 0], .slice none 0 0, .bool false])
 | some x => ∃ ta tc gv, e = .returned (.tuple #[tyV x.1 ta tc, gv, .bool true]) ∧ OnWay S w x.1 ta tc ∧ w'.ownsRow w.heap.size 3 1 gv x.2.length (intsV x.2)
theorem wkEnd_none {S : List (List Ty)} {w w' : World} {o : Option (Ty × List Int)} (h : o = none) (hk : KB F0 w w') : WkEnd S w o (.returned (.tuple #[.agg #[.int .u8 0, .bool false, .int .i64 0, .int .i64 0, .slice none 0 0], .slice none 0 0, .bool false])) w' := by
 subst h; exact ⟨hk, rfl⟩
abbrev tyObj (t : Ty) (ta : Option Addr) (tc : Nat) : Obj := .cells #[.int .u8 t.k, .bool t.m, .int .i64 t.r, .int .i64 t.s, .slice ta t.of.length tc] 26
structure WkSt (S : List (List Ty)) (w0 W : World) (X : Nat) (wr : World) (t : Ty) (ta : Option Addr) (tc : Nat) (gv : Value) (hs : List Int) : Prop where
 kb : KB (fun k => k = X) W wr
 cell : wr.heap[X]? = some (tyObj t ta tc)
 on : OnWay S w0 t ta tc
 own : wr.ownsRow W.heap.size 3 1 gv hs.length (intsV hs)
theorem WkSt.kb0 {S : List (List Ty)} {w0 W : World} {X : Nat} {wr : World} {t : Ty} {ta : Option Addr} {tc : Nat} {gv : Value} {hs : List Int} (h : WkSt S w0 W X wr t ta tc gv hs) (hk : KB F0 w0 W) (hX : w0.heap.size ≤ X) : KB F0 w0 wr := hk.oldS h.kb (fun k hk e => by omega)
theorem WkSt.next {S : List (List Ty)} {w0 W : World} {X : Nat} {wr w' : World} {t u : Ty} {ta ua : Option Addr} {tc uc : Nat} {gv gv' : Value} {hs : List Int} {x : Int} (h : WkSt S w0 W X wr t ta tc gv hs) (hX : X < W.heap.size)
  (hon : OnWay S w0 u ua uc) (hown : w'.ownsRow W.heap.size 3 1 gv' (hs.length + 1) (intsV hs ++ [.int .i64 x])) (hgr : (wr.alloc (.cells #[.int .i64 x] 3)).grownBy w' gv.ownBlock) :
  KB (fun k => k = X) W w' ∧ w'.heap[X]? = some (tyObj t ta tc) ∧ WkSt S w0 W X (set5 w' X (.int .u8 u.k) (.bool u.m) (.int .i64 u.r) (.int .i64 u.s) (.slice ua u.of.length uc)) u ua uc gv' (hs ++ [x]) := by
 have ka := (KB.refl F0 wr).alloc (.cells #[.int .i64 x] 3)
 have k1 : KB (fun k => k = X) W (wr.alloc (.cells #[.int .i64 x] 3)) := h.kb.trans (ka.mono (fun _ _ x => x.elim))
 have k2 : KB (fun k => k = X) W w' := k1.grown hgr (fun k e hk => by
  obtain ⟨c1, h1, h2⟩ := own_block h.own e
  omega)
 have hX2 : w'.heap[X]? = some (tyObj t ta tc) := by
  rw [hgr.block X (heap_lt (ka.heap (fun x => x) h.cell)) (fun e => by
   obtain ⟨c1, h1, h2⟩ := own_block h.own e.symm
   omega)]
  exact ka.heap (fun x => x) h.cell
 refine ⟨k2, hX2, ⟨k2.trans (set5_kb w' X _ _ _ _ _), set5_blk hX2 _ _ _ _ _, hon, ?_⟩⟩
 rw [List.length_append, show intsV (hs ++ [x]) = intsV hs ++ [.int .i64 x] by simp [intsV]]
 exact own_kb hown (set5_kb w' X _ _ _ _ _) (fun k e1 e2 => by
  obtain ⟨c1, h1, h2⟩ := own_block hown e1
  omega)

def deepT : Nat → Ty → Bool
 | 0, t => decide (t.of.length = 0)
 | n + 1, t => decide (t.of.length = 0) || (decide (t.of.length = 1) && deepT n (in0 t))
theorem deep_look {S : Nat} : ∀ {n : Nat} {t : Ty}, lookB S n t = true → deepT n t = true := by
 intro n
 induction n with
 | zero => intro t h; cases h
 | succ n ih =>
  intro t h
  rw [lookB_succ] at h
  unfold deepT
  unfold lookV at h
  by_cases h0 : t.of.length = 0
  ·simp [h0]
  ·by_cases h1 : t.of.length = 1
   ·cases hq : lookB S n (in0 t) with
    | true => simp [h1, ih hq]
    | false => exfalso; revert h; simp only [hq, Bool.and_false]; simp [h1]
   ·exfalso; revert h; simp only [h1, decide_false, Bool.false_and]; simp [h0]
theorem deep_le {n : Nat} {t : Ty} (h : deepT n t = true) : t.of.length ≤ 1 := by
 cases n with
 | zero => unfold deepT at h; simp at h; simp [h]
 | succ n => unfold deepT at h; simp at h; rcases h with h | h <;> simp [h]
theorem deep_in {n : Nat} {t : Ty} (h : deepT n t = true) (h1 : t.of.length = 1) : ∃ m, n = m + 1 ∧ deepT m (in0 t) = true := by
 cases n with
 | zero => unfold deepT at h; simp [h1] at h
 | succ n => unfold deepT at h; simp [h1] at h; exact ⟨n, rfl, h⟩
theorem deep_at {w : World} : ∀ {n : Nat} {t : Ty} {a : Option Addr} {c : Nat}, deepT n t = true → TyAt (n + 1) w t a c → ∀ m, TyAt m w t a c := by
 intro n
 induction n with
 | zero =>
  intro t a c h ht m
  cases m with
  | zero => trivial
  | succ m => exact ⟨ht.1, fun i hi => by unfold deepT at h; simp at h; simp [h] at hi⟩
 | succ n ih =>
  intro t a c h ht m
  cases m with
  | zero => trivial
  | succ m =>
   refine ⟨ht.1, fun i hi => ?_⟩
   have hle := deep_le h
   obtain ⟨k, hk, hd⟩ := deep_in h (by omega)
   obtain rfl : i = 0 := by omega
   obtain rfl : n = k := by omega
   obtain ⟨b, o, a', c', e, h1, h2⟩ := ht.2 0 hi
   exact ⟨b, o, a', c', e, h1, ih hd h2 m⟩
theorem look_mono {S R : Nat} (hSR : S ≤ R) : ∀ {n m : Nat} {t : Ty}, n ≤ m → lookB S n t = true → lookB R m t = true := by
 intro n
 induction n with
 | zero => intro m t _ h; cases h
 | succ n ih =>
  intro m t hm h
  cases m with
  | zero => omega
  | succ m =>
   rw [lookB_succ] at h ⊢
   have hq : (decide (t.of.length = 1) && lookB S n (in0 t)) = true → (decide (t.of.length = 1) && lookB R m (in0 t)) = true := by
    simp only [Bool.and_eq_true]; exact fun h => ⟨h.1, ih (by omega) h.2⟩
   revert h hq
   generalize (decide (t.of.length = 1) && lookB S n (in0 t)) = q
   generalize (decide (t.of.length = 1) && lookB R m (in0 t)) = r
   intro h hq
   unfold lookV at *
   split
   ·rename_i h1; rw [if_pos h1] at h; exact h
   ·rename_i h1; rw [if_neg h1] at h
    split
    ·rename_i h2; rw [if_pos h2] at h
     simp only [Bool.and_eq_true, decide_eq_true_eq] at h ⊢
     exact ⟨h.1, h.2.1, h.2.2.1, by omega⟩
    ·rename_i h2; rw [if_neg h2] at h
     split
     ·rename_i h3; rw [if_pos h3] at h; simp only [Bool.and_eq_true] at h ⊢; exact ⟨h.1, h.2.1, hq h.2.2⟩
     ·rename_i h3; rw [if_neg h3] at h
      split
      ·rename_i h4; rw [if_pos h4] at h; simp only [Bool.and_eq_true] at h ⊢; exact ⟨h.1, h.2.1, hq h.2.2⟩
      ·rename_i h4; rw [if_neg h4] at h; cases h
theorem OnWay.look {S : List (List Ty)} {w : World} {t : Ty} {ta : Option Addr} {tc : Nat} (hg : GoodS S) (h : OnWay S w t ta tc) : lookB 32 48 t = true ∧ ∀ m, TyAt m w t ta tc := by
 obtain ⟨d, hd, hl, ht⟩ := h
 exact ⟨look_mono hg.len hd hl, deep_at (deep_look hl) ht⟩

theorem ret_ty1 {fn : Func} {R : Ending → World → Prop} {a : Act} {w : World} {p X : Nat} {k : Int} {m : Bool} {r s : Int} {v : Value} (h : fn.results = #[.cell p 26]) (hp : a.tmps.getD p undef = .pointer (some ⟨X, 0, none⟩))
  (hc : w.heap[X]? = some (.cells #[.int .u8 k, .bool m, .int .i64 r, .int .i64 s, v] 26 (0, 0))) (hd : a.defers = []) (hR : R (.returned (.agg #[.int .u8 k, .bool m, .int .i64 r, .int .i64 s, v])) w) : bodyPost Tryz.prog fn R .ret a w := by
 refine bodyPost_ret (v := .agg #[.int .u8 k, .bool m, .int .i64 r, .int .i64 s, v]) ?_ hd hR
 have hp' : a.tmps[p]?.getD undef = .pointer (some ⟨X, 0, none⟩) := by simpa using hp
 have c0 : w.cell? ⟨X, 0, none⟩ = some (.int .u8 k) := blk_cell hc 0
 have c1 : w.cell? ⟨X, 1, none⟩ = some (.bool m) := blk_cell hc 1
 have c2 : w.cell? ⟨X, 2, none⟩ = some (.int .i64 r) := blk_cell hc 2
 have c3 : w.cell? ⟨X, 3, none⟩ = some (.int .i64 s) := blk_cell hc 3
 have c4 : w.cell? ⟨X, 4, none⟩ = some v := blk_cell hc 4
 simp only [results, h]
 go_simp
def OwnT : Nat → World → Nat → Ty → Option Addr → Nat → Prop
 | 0, _, _, t, a, c => t.of.length = 0 ∧ a = none ∧ c = 0
 | n + 1, w, B, t, a, c => (t.of.length = 0 ∧ a = none ∧ c = 0) ∨ (t.of.length = 1 ∧ ∃ g a' c', a = some ⟨g, 0, none⟩ ∧ c = 1 ∧ B ≤ g ∧ w.heap[g]? = some (tyObj (in0 t) a' c') ∧ OwnT n w B (in0 t) a' c')
theorem OwnT.kb {S : Nat → Prop} {w w' : World} {B : Nat} (hk : KB S w w') (hS : ∀ k, B ≤ k → k < w.heap.size → ¬ S k) : ∀ {n : Nat} {t : Ty} {a : Option Addr} {c : Nat}, OwnT n w B t a c → OwnT n w' B t a c := by
 intro n
 induction n with
 | zero => intro t a c h; exact h
 | succ n ih =>
  intro t a c h
  rcases h with h | ⟨h1, g, a', c', h2, h3, h4, h5, h6⟩
  ·exact Or.inl h
  ·exact Or.inr ⟨h1, g, a', c', h2, h3, h4, hk.heap (hS g h4 (heap_lt h5)) h5, ih h6⟩
theorem OwnT.base {w : World} {B B' : Nat} (hB : B' ≤ B) : ∀ {n : Nat} {t : Ty} {a : Option Addr} {c : Nat}, OwnT n w B t a c → OwnT n w B' t a c := by
 intro n
 induction n with
 | zero => intro t a c h; exact h
 | succ n ih =>
  intro t a c h
  rcases h with h | ⟨h1, g, a', c', h2, h3, h4, h5, h6⟩
  ·exact Or.inl h
  ·exact Or.inr ⟨h1, g, a', c', h2, h3, by omega, h5, ih h6⟩
theorem OwnT.none {w : World} {B n : Nat} {t : Ty} (h : t.of.length = 0) : OwnT n w B t none 0 := by
 cases n with
 | zero => exact ⟨h, rfl, rfl⟩
 | succ n => exact Or.inl ⟨h, rfl, rfl⟩
theorem OwnT.at {w : World} {B : Nat} : ∀ {n : Nat} {t : Ty} {a : Option Addr} {c : Nat}, OwnT n w B t a c → TyAt (n + 1) w t a c := by
 intro n
 induction n with
 | zero =>
  intro t a c h
  exact ⟨by have := h.1; omega, fun i hi => by have := h.1; omega⟩
 | succ n ih =>
  intro t a c h
  rcases h with h | ⟨h1, g, a', c', h2, h3, h4, h5, h6⟩
  ·exact ⟨by have := h.1; omega, fun i hi => by have := h.1; omega⟩
  ·refine ⟨by omega, fun i hi => ?_⟩
   obtain rfl : i = 0 := by omega
   have hc := TyCells.of_block h5
   refine ⟨g, 0, a', c', h2, ?_, ih h6⟩
   rw [Nat.zero_mul, Nat.add_zero]
   exact hc
def OwnEnd (n : Nat) (t : Ty) (w : World) (e : Ending) (w' : World) : Prop := KB F0 w w' ∧ ∃ ga gc, e = .returned (tyV t ga gc) ∧ OwnT n w' w.heap.size t ga gc
set_option maxRecDepth 100000 in
set_option maxHeartbeats 16000000 in
theorem own_zero (t : Ty) (a : Option Addr) (c : Nat) (w : World) (h0 : t.of.length = 0) :
  Calls Tryz.prog 112 #[tyV t a c] w fun e w' => e = .returned (tyV t none 0) ∧ KB F0 w w' := by
 obtain ⟨w0, rfl⟩ : ∃ w0, w0 = w := ⟨_, rfl⟩
 unfold tyV
 rw [h0]
 clear h0
 obtain ⟨hk, hb1, hb2⟩ := new2 w0 #[.int .u8 t.k, .bool t.m, .int .i64 t.r, .int .i64 t.s, .slice a 0 c] ty0c 26 26
 unfold ty0c at hk hb1 hb2
 obtain ⟨W, hW⟩ : ∃ W, W = ((w0.alloc (.cells #[.int .u8 t.k, .bool t.m, .int .i64 t.r, .int .i64 t.s, .slice a 0 c] 26)).alloc (.cells #[.int .u8 0, .bool false, .int .i64 0, .int .i64 0, .slice none 0 0] 26)) := ⟨_, rfl⟩
 rw [← hW] at hk hb1 hb2
 have a0 : W.cell? ⟨w0.heap.size, 0, none⟩ = some (.int .u8 t.k) := blk_cell hb1 0
 have a1 : W.cell? ⟨w0.heap.size, 1, none⟩ = some (.bool t.m) := blk_cell hb1 1
 have a2 : W.cell? ⟨w0.heap.size, 2, none⟩ = some (.int .i64 t.r) := blk_cell hb1 2
 have a3 : W.cell? ⟨w0.heap.size, 3, none⟩ = some (.int .i64 t.s) := blk_cell hb1 3
 have a4 : W.cell? ⟨w0.heap.size, 4, none⟩ = some (.slice a 0 c) := blk_cell hb1 4
 have b0 : W.cell? ⟨w0.heap.size + 1, 0, none⟩ = some (.int .u8 0) := blk_cell hb2 0
 have b1 : W.cell? ⟨w0.heap.size + 1, 1, none⟩ = some (.bool false) := blk_cell hb2 1
 have b2 : W.cell? ⟨w0.heap.size + 1, 2, none⟩ = some (.int .i64 0) := blk_cell hb2 2
 have b3 : W.cell? ⟨w0.heap.size + 1, 3, none⟩ = some (.int .i64 0) := blk_cell hb2 3
 have b4 : W.cell? ⟨w0.heap.size + 1, 4, none⟩ = some (.slice none 0 0) := blk_cell hb2 4
 have f4 := blk_frozen hb1 4
 have g0 := blk_frozen hb2 0
 have g1 := blk_frozen hb2 1
 have g2 := blk_frozen hb2 2
 have g3 := blk_frozen hb2 3
 have g4 := blk_frozen hb2 4
 have HB := Lib.hid (And.intro hk (And.intro hb1 hb2))
 have HW := Lib.hid hW
 generalize t.k = k at *
 generalize t.m = m at *
 generalize t.r = rg at *
 generalize t.s = st at *
 clear hk hb1 hb2 hW
 go_enter Tryz.func112, Tryz.ntmps112
 go_upto_region 1 with fail
 rw [← HW.out]
 go_wp2_with fail
 have k1 := kb_set W w0.heap.size 4 (.slice none 0 0)
 refine ret_ty1 (X := w0.heap.size + 1) rfl rfl (set5_blk (k1.heap (by omega) HB.out.2.2) (.int .u8 k) (.bool m) (.int .i64 rg) (.int .i64 st) (.slice none 0 0)) rfl ?_
 exact ⟨rfl, set5_new (HB.out.1.oldS k1 (fun k hk e => by omega)) (show w0.heap.size ≤ w0.heap.size + 1 by omega) _ _ _ _ _⟩
set_option maxRecDepth 100000 in
set_option maxHeartbeats 16000000 in
theorem own_one (t : Ty) (ab ao : Nat) (a' : Option Addr) (c' c : Nat) (w : World) (h1 : t.of.length = 1) (hc : 1 ≤ c) (hca : TyCells w ab ao (in0 t) a' c') (n : Nat)
  (rec : ∀ V, KB F0 w V → Calls Tryz.prog 112 #[tyV (in0 t) a' c'] V (OwnEnd n (in0 t) V)) :
  Calls Tryz.prog 112 #[tyV t (some ⟨ab, ao, none⟩) c] w (OwnEnd (n + 1) t w) := by
 obtain ⟨w0, rfl⟩ : ∃ w0, w0 = w := ⟨_, rfl⟩
 have HE : Hid (∀ e w' , (KB F0 w0 w' ∧ ∃ g a' c', e = .returned (.agg #[.int .u8 t.k, .bool t.m, .int .i64 t.r, .int .i64 t.s, .slice (some ⟨g, 0, none⟩) 1 1]) ∧ w0.heap.size ≤ g ∧ w'.heap[g]? = some (tyObj (in0 t) a' c') ∧ OwnT n w' w0.heap.size (in0 t) a' c') → OwnEnd (n + 1) t w0 e w') := Lib.hid (fun e w' h => by
  obtain ⟨hk, g, a', c', e1, h2, h3, h4⟩ := h
  refine ⟨hk, some ⟨g, 0, none⟩, 1, ?_, Or.inr ⟨h1, g, a', c', rfl, rfl, h2, h3, h4⟩⟩
  rw [e1]; unfold tyV; rw [h1])
 generalize OwnEnd (n + 1) t w0 = EE at HE ⊢
 have RC := Lib.hid rec
 clear rec
 unfold tyV at RC ⊢
 rw [h1]
 clear h1
 obtain ⟨hk, hb1, hb2⟩ := new2 w0 #[.int .u8 t.k, .bool t.m, .int .i64 t.r, .int .i64 t.s, .slice (some ⟨ab, ao, none⟩) 1 c] ty0c 26 26
 unfold ty0c at hk hb1 hb2
 obtain ⟨W, hW⟩ : ∃ W, W = ((w0.alloc (.cells #[.int .u8 t.k, .bool t.m, .int .i64 t.r, .int .i64 t.s, .slice (some ⟨ab, ao, none⟩) 1 c] 26)).alloc (.cells #[.int .u8 0, .bool false, .int .i64 0, .int .i64 0, .slice none 0 0] 26)) := ⟨_, rfl⟩
 rw [← hW] at hk hb1 hb2
 have a0 : W.cell? ⟨w0.heap.size, 0, none⟩ = some (.int .u8 t.k) := blk_cell hb1 0
 have a1 : W.cell? ⟨w0.heap.size, 1, none⟩ = some (.bool t.m) := blk_cell hb1 1
 have a2 : W.cell? ⟨w0.heap.size, 2, none⟩ = some (.int .i64 t.r) := blk_cell hb1 2
 have a3 : W.cell? ⟨w0.heap.size, 3, none⟩ = some (.int .i64 t.s) := blk_cell hb1 3
 have a4 : W.cell? ⟨w0.heap.size, 4, none⟩ = some (.slice (some ⟨ab, ao, none⟩) 1 c) := blk_cell hb1 4
 have b0 : W.cell? ⟨w0.heap.size + 1, 0, none⟩ = some (.int .u8 0) := blk_cell hb2 0
 have b1 : W.cell? ⟨w0.heap.size + 1, 1, none⟩ = some (.bool false) := blk_cell hb2 1
 have b2 : W.cell? ⟨w0.heap.size + 1, 2, none⟩ = some (.int .i64 0) := blk_cell hb2 2
 have b3 : W.cell? ⟨w0.heap.size + 1, 3, none⟩ = some (.int .i64 0) := blk_cell hb2 3
 have b4 : W.cell? ⟨w0.heap.size + 1, 4, none⟩ = some (.slice none 0 0) := blk_cell hb2 4
 have f4 := blk_frozen hb1 4
 have g0 := blk_frozen hb2 0
 have g1 := blk_frozen hb2 1
 have g2 := blk_frozen hb2 2
 have g3 := blk_frozen hb2 3
 have g4 := blk_frozen hb2 4
 have HB := Lib.hid (And.intro hk (And.intro hb1 hb2))
 have HW := Lib.hid hW
 obtain ⟨i0, i1, i2, i3, i4⟩ := hca.kbF hk
 have hcI : (1 : Int) ≤ (c : Int) := by omega
 generalize in0 t = u at *
 generalize t.k = k at *
 generalize t.m = m at *
 generalize t.r = rg at *
 generalize t.s = st at *
 clear hk hb1 hb2 hW
 go_enter Tryz.func112, Tryz.ntmps112
 go_upto_region 1 with fail
 rw [← HW.out]
 go_wp2_with fail
 refine (RC.out _ HB.out.1).mono ?_
 rintro e w2 ⟨k2, ga, gc, rfl, ho⟩
 unfold tyV
 have ka := (KB.refl F0 w2).alloc (.cells #[.int .u8 u.k, .bool u.m, .int .i64 u.r, .int .i64 u.s, .slice ga u.of.length gc] 26)
 have hg := alloc_new w2 (.cells #[.int .u8 u.k, .bool u.m, .int .i64 u.r, .int .i64 u.s, .slice ga u.of.length gc] 26)
 have h1 := ka.heap (fun x => x) (k2.heap (fun x => x) HB.out.2.1)
 have h2 := ka.heap (fun x => x) (k2.heap (fun x => x) HB.out.2.2)
 have hsz : w0.heap.size + 1 < w2.heap.size := heap_lt (k2.heap (fun x => x) HB.out.2.2)
 have K2 := Lib.hid (And.intro k2 (And.intro ho (And.intro ka (And.intro hg (And.intro h1 h2)))))
 clear a0 a1 a2 a3 a4 b0 b1 b2 b3 b4 f4 g0 g1 g2 g3 g4
 have f4 := blk_frozen h1 4
 have a4 := blk_cell h1 4
 simp only [List.getElem?_toArray, List.getElem?_cons_zero, List.getElem?_cons_succ] at a4
 have a0 := blk_cell h1 0
 simp only [List.getElem?_toArray, List.getElem?_cons_zero] at a0
 have a1 := blk_cell h1 1
 simp only [List.getElem?_toArray, List.getElem?_cons_zero, List.getElem?_cons_succ] at a1
 have a2 := blk_cell h1 2
 simp only [List.getElem?_toArray, List.getElem?_cons_zero, List.getElem?_cons_succ] at a2
 have a3 := blk_cell h1 3
 simp only [List.getElem?_toArray, List.getElem?_cons_zero, List.getElem?_cons_succ] at a3
 have b0 := blk_cell h2 0
 have b1 := blk_cell h2 1
 have b2 := blk_cell h2 2
 have b3 := blk_cell h2 3
 have b4 := blk_cell h2 4
 simp only [List.getElem?_toArray, List.getElem?_cons_zero, List.getElem?_cons_succ] at b0 b1 b2 b3 b4
 have g0 := blk_frozen h2 0
 have g1 := blk_frozen h2 1
 have g2 := blk_frozen h2 2
 have g3 := blk_frozen h2 3
 have g4 := blk_frozen h2 4
 clear k2 ho ka hg h1 h2
 go_wp2_with fail
 obtain ⟨k2, ho, ka, hg, h1, h2⟩ := K2.out
 have hWs := heap_lt HB.out.2.2
 have e1 := kb_set (w2.alloc (.cells #[.int .u8 u.k, .bool u.m, .int .i64 u.r, .int .i64 u.s, .slice ga u.of.length gc] 26)) w0.heap.size 4 (.slice (some ⟨w2.heap.size, 0, none⟩) 1 1)
 have e2 := set5_kb ((w2.alloc (.cells #[.int .u8 u.k, .bool u.m, .int .i64 u.r, .int .i64 u.s, .slice ga u.of.length gc] 26)).setCell ⟨w0.heap.size, 4, none⟩ (.slice (some ⟨w2.heap.size, 0, none⟩) 1 1)) (w0.heap.size + 1) (.int .u8 k) (.bool m) (.int .i64 rg) (.int .i64 st) (.slice (some ⟨w2.heap.size, 0, none⟩) 1 1)
 refine ret_ty1 (X := w0.heap.size + 1) rfl rfl (set5_blk (e1.heap (by omega) h2) (.int .u8 k) (.bool m) (.int .i64 rg) (.int .i64 st) (.slice (some ⟨w2.heap.size, 0, none⟩) 1 1)) rfl ?_
 refine HE.out _ _ ⟨set5_new (kb_new (HB.out.1.trans (k2.trans ka)) (Nat.le_refl _) _ _) (show w0.heap.size ≤ w0.heap.size + 1 by omega) _ _ _ _ _, w2.heap.size, ga, gc, rfl, by omega, e2.heap (by omega) (e1.heap (by omega) hg), ?_⟩
 exact (((ho.kb ka (fun k _ _ h => h)).kb e1 (fun k h _ e => by omega)).kb e2 (fun k h _ e => by omega)).base (by omega)
theorem own_any : ∀ n : Nat, ∀ (t : Ty) (a : Option Addr) (c : Nat) (w : World), deepT n t = true → TyAt (n + 1) w t a c → Calls Tryz.prog 112 #[tyV t a c] w (OwnEnd n t w) := by
 intro n
 induction n with
 | zero =>
  intro t a c w hd _
  have h0 : t.of.length = 0 := by unfold deepT at hd; simpa using hd
  exact (own_zero t a c w h0).mono fun e w' ⟨he, hk⟩ => ⟨hk, none, 0, he, OwnT.none h0⟩
 | succ n ih =>
  intro t a c w hd ha
  have hle := deep_le hd
  rcases Nat.lt_or_ge 0 t.of.length with h0 | h0
  ·have h1 : t.of.length = 1 := by omega
   obtain ⟨m, hm, hdi⟩ := deep_in hd h1
   obtain rfl : n = m := by omega
   obtain ⟨ab, ao, a', c', rfl, hca, hta⟩ := ha.in0 h0
   exact own_one t ab ao a' c' c w h1 (by have := ha.1; omega) hca n (fun V hV => ih (in0 t) a' c' V hdi (hta.kbF hV))
  ·exact (own_zero t a c w (by omega)).mono fun e w' ⟨he, hk⟩ => ⟨hk, none, 0, he, OwnT.none (by omega)⟩
end Go.Proofs.YtaeppaaolkcbbaaGreatDoor

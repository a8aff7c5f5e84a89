/- A place's way among types, plain; what memory holds of it. -/
import Derived.Test.YtpigppghcghpbaaGreatDoorMg22
import Derived.Test.YtpigppghcghpbaaGreatDoorPlN
namespace Go.Proofs.YtpigppghcghpbaaGreatDoor
open Go.RowKit

/-- One step: the type, and how it goes. -/
def stepP (S : List (List Ty)) (t : Ty) (k : Int) : Option (Ty × Int) :=
  if k = -1 ∧ t.k = 3 then some (in0 t, 1)
  else if k = -1 ∧ t.k = 4 ∧ t.m = true then some (in0 t, 2)
  else if k = -1 ∧ t.k = 4 then some (in0 t, 3)
  else if t.k ≠ 5 ∨ k < 0 ∨ ((fds S t.s.toNat).length : Int) ≤ k then none
  else some ((fds S t.s.toNat).getD k.toNat ty0, 0)
def walkN (S : List (List Ty)) (t0 : Ty) (path : List Int) : Nat → Option (Ty × List Int)
  | 0 => some (t0, [])
  | i + 1 => (walkN S t0 path i).bind fun x => (stepP S x.1 (path.getD i 0)).map fun y => (y.1, x.2 ++ [y.2])
theorem walkN_none {S : List (List Ty)} {t0 : Ty} {path : List Int} {i j : Nat} (h : walkN S t0 path i = none) (hij : i ≤ j) : walkN S t0 path j = none := by
  induction j with
  | zero => obtain rfl : i = 0 := by omega
            exact h
  | succ j ih =>
    rcases Nat.lt_or_eq_of_le hij with h1 | rfl
    · simp [walkN, ih (by omega)]
    · exact h
theorem walkN_step {S : List (List Ty)} {t0 t u : Ty} {path : List Int} {i : Nat} {hs : List Int} {x : Int} (h : walkN S t0 path i = some (t, hs)) (hk : stepP S t (path.getD i 0) = some (u, x)) : walkN S t0 path (i + 1) = some (u, hs ++ [x]) := by
  simp only [walkN, h, Option.bind_some, hk, Option.map_some]
theorem walkN_stop {S : List (List Ty)} {t0 t : Ty} {path : List Int} {i : Nat} {hs : List Int} (h : walkN S t0 path i = some (t, hs)) (hk : stepP S t (path.getD i 0) = none) : walkN S t0 path (i + 1) = none := by
  simp only [walkN, h, Option.bind_some, hk, Option.map_none]
theorem walkN_len {S : List (List Ty)} {t0 : Ty} {path : List Int} : ∀ {i : Nat} {t : Ty} {hs : List Int}, walkN S t0 path i = some (t, hs) → hs.length = i := by
  intro i
  induction i with
  | zero => intro t hs h; simp only [walkN, Option.some.injEq, Prod.mk.injEq] at h; rw [← h.2]; rfl
  | succ i ih =>
    intro t hs h
    simp only [walkN] at h
    cases hw : walkN S t0 path i with
    | none => rw [hw] at h; cases h
    | some x =>
      rw [hw] at h
      simp only [Option.bind_some, Option.map_eq_some_iff] at h
      obtain ⟨y, -, e⟩ := h
      have := ih (t := x.1) (hs := x.2) hw
      simp only [Prod.mk.injEq] at e
      rw [← e.2, List.length_append, this]; rfl
def MayP (S : List (List Ty)) (L : List Ty) (p : Pl) : Prop := (0 ≤ p.loc ∧ p.loc < (L.length : Int)) ∧ p.path.length ≤ 8 ∧ AllT S L
noncomputable def wkP (S : List (List Ty)) (L : List Ty) (p : Pl) : Option (Ty × List Int) :=
  @ite _ (MayP S L p) (Classical.propDecidable _) (walkN S (L.getD p.loc.toNat ty0) p.path p.path.length) none
theorem wkP_pos {S : List (List Ty)} {L : List Ty} {p : Pl} (h : MayP S L p) : wkP S L p = walkN S (L.getD p.loc.toNat ty0) p.path p.path.length := by unfold wkP; rw [if_pos h]
theorem wkP_neg {S : List (List Ty)} {L : List Ty} {p : Pl} (h : ¬ MayP S L p) : wkP S L p = none := by unfold wkP; rw [if_neg h]
/-- A type on the way: it may be, so deep, and lies in memory. -/
def OnWay (S : List (List Ty)) (w : World) (t : Ty) (ta : Option Addr) (tc : Nat) : Prop := ∃ d, d ≤ 48 ∧ lookB S.length d t = true ∧ TyAt (d + 1) w t ta tc
theorem look_in0 {n d : Nat} {t : Ty} (h : lookB n d t = true) (hk : t.k = 3 ∨ t.k = 4) : ∃ e, d = e + 1 ∧ t.of.length = 1 ∧ lookB n e (in0 t) = true := by
  cases d with
  | zero => cases h
  | succ e =>
    rw [lookB_succ] at h
    refine ⟨e, rfl, ?_⟩
    by_cases h1 : t.of.length = 1
    · rw [decide_eq_true h1, Bool.true_and] at h
      refine ⟨h1, ?_⟩
      unfold lookV at h
      rcases hk with hk | hk <;> simp [hk] at h <;> simp [h]
    · rw [decide_eq_false h1, Bool.false_and] at h
      unfold lookV at h
      rcases hk with hk | hk <;> simp [hk] at h
theorem OnWay.deref {S : List (List Ty)} {w : World} {t : Ty} {ta : Option Addr} {tc : Nat} (h : OnWay S w t ta tc) (hk : t.k = 3 ∨ t.k = 4) :
    ∃ b o a c, ta = some ⟨b, o, none⟩ ∧ t.of.length = 1 ∧ 1 ≤ tc ∧ TyCells w b o (in0 t) a c ∧ OnWay S w (in0 t) a c := by
  obtain ⟨d, hd, hl, ht⟩ := h
  obtain ⟨e, rfl, h1, hi⟩ := look_in0 hl hk
  obtain ⟨b, o, a, c, h2, h3, h4⟩ := ht.in0 (by omega)
  exact ⟨b, o, a, c, h2, h1, by have := ht.1; omega, h3, e, by omega, hi, h4⟩
theorem look_struct {n d : Nat} {t : Ty} (h : lookB n d t = true) (hk : t.k = 5) : 0 ≤ t.s ∧ t.s < (n : Int) := by
  cases d with
  | zero => cases h
  | succ e =>
    rw [lookB_succ] at h
    unfold lookV at h
    simp [hk] at h
    exact ⟨h.2.2.1, h.2.2.2⟩
/-- A struct's field on the way. -/
theorem OnWay.field {S : List (List Ty)} (hg : GoodS S) {w : World} {t : Ty} {ta sa : Option Addr} {tc : Nat} (h : OnWay S w t ta tc) (hS : StsAt 49 w sa S) (hk : t.k = 5) {j : Nat} (hj : j < (fds S t.s.toNat).length) :
    ∃ u sb so fb fo fc a c, t.s = (u : Nat) ∧ u < S.length ∧ sa = some ⟨sb, so, none⟩ ∧ w.cell? ⟨sb, so + u * 2 + 1, none⟩ = some (.slice (some ⟨fb, fo, none⟩) (fds S t.s.toNat).length fc) ∧ (fds S t.s.toNat).length ≤ fc ∧
      TyCells w fb (fo + j * 6 + 1) ((fds S t.s.toNat).getD j ty0) a c ∧ OnWay S w ((fds S t.s.toNat).getD j ty0) a c := by
  obtain ⟨d, hd, hl, ht⟩ := h
  have hs := look_struct hl hk
  obtain ⟨u, hu⟩ : ∃ u : Nat, t.s = u := ⟨t.s.toNat, by omega⟩
  have hun : t.s.toNat = u := by omega
  rw [hun] at hj ⊢
  obtain ⟨sb, so, nm, fa, fc, rfl, -, h1, h2, h3⟩ := hS u (by omega)
  obtain ⟨fb, fo, fnm, a, c, rfl, -, h4, h5⟩ := h3 j hj
  refine ⟨u, sb, so, fb, fo, fc, a, c, hu, by omega, rfl, h1, h2, h4, 48, Nat.le_refl _, ?_, h5⟩
  have hm : (fds S u).getD j ty0 ∈ fds S u := getD_mem hj
  have := (sB1_fds (hg.b1 u (by omega))).2.2 _ hm
  rw [mayB_bare] at this
  simp only [Bool.and_eq_true] at this
  exact this.1
theorem ret_tyI3 {fn : Func} {R : Ending → World → Prop} {a : Act} {w : World} {p q q2 X : Nat} {k : Int} {m : Bool} {r s : Int} {v u u2 : Value} (h : fn.results = #[.cell p 36, .tmp q, .tmp q2]) (hp : a.tmps.getD p undef = .pointer (some ⟨X, 0, none⟩)) (hq : a.tmps.getD q undef = u) (hq2 : a.tmps.getD q2 undef = u2)
    (hc : w.heap[X]? = some (.cells #[.int .u8 k, .bool m, .int .i64 r, .int .i64 s, v] 36 (0, 0))) (hd : a.defers = []) (hR : R (.returned (.tuple #[.agg #[.int .u8 k, .bool m, .int .i64 r, .int .i64 s, v], u, u2])) w) : bodyPost Tryz.prog fn R .ret a w := by
  refine bodyPost_ret (v := .tuple #[.agg #[.int .u8 k, .bool m, .int .i64 r, .int .i64 s, v], u, u2]) ?_ hd hR
  have hp' : a.tmps[p]?.getD undef = .pointer (some ⟨X, 0, none⟩) := by simpa using hp
  have hq' : a.tmps[q]?.getD undef = u := by simpa using hq
  have hq2' : a.tmps[q2]?.getD undef = u2 := by simpa using hq2
  have c0 : w.cell? ⟨X, 0, none⟩ = some (.int .u8 k) := blk_cell hc 0
  have c1 : w.cell? ⟨X, 1, none⟩ = some (.bool m) := blk_cell hc 1
  have c2 : w.cell? ⟨X, 2, none⟩ = some (.int .i64 r) := blk_cell hc 2
  have c3 : w.cell? ⟨X, 3, none⟩ = some (.int .i64 s) := blk_cell hc 3
  have c4 : w.cell? ⟨X, 4, none⟩ = some v := blk_cell hc 4
  simp only [results, h]
  go_simp
/-- What walking a place answers. -/
def WkEnd (S : List (List Ty)) (w : World) (o : Option (Ty × List Int)) (e : Ending) (w' : World) : Prop := KB F0 w w' ∧
  match o with
  | none => e = .returned (.tuple #[.agg #[.int .u8 0, .bool false, .int .i64 0, .int .i64 0, .slice none 0 0], .slice none 0 0, .bool false])
  | some x => ∃ ta tc gv, e = .returned (.tuple #[tyV x.1 ta tc, gv, .bool true]) ∧ OnWay S w x.1 ta tc ∧ w'.ownsRow w.heap.size 3 1 gv x.2.length (intsV x.2)
theorem wkEnd_none {S : List (List Ty)} {w w' : World} {o : Option (Ty × List Int)} (h : o = none) (hk : KB F0 w w') : WkEnd S w o (.returned (.tuple #[.agg #[.int .u8 0, .bool false, .int .i64 0, .int .i64 0, .slice none 0 0], .slice none 0 0, .bool false])) w' := by
  subst h; exact ⟨hk, rfl⟩
/-- The five cells of a type's block. -/
abbrev tyObj (t : Ty) (ta : Option Addr) (tc : Nat) : Obj := .cells #[.int .u8 t.k, .bool t.m, .int .i64 t.r, .int .i64 t.s, .slice ta t.of.length tc] 36
/-- Between two steps: the type so far in the block X, the ways so far. -/
structure WkSt (S : List (List Ty)) (w0 W : World) (X : Nat) (wr : World) (t : Ty) (ta : Option Addr) (tc : Nat) (gv : Value) (hs : List Int) : Prop where
  kb : KB (fun k => k = X) W wr
  cell : wr.heap[X]? = some (tyObj t ta tc)
  on : OnWay S w0 t ta tc
  own : wr.ownsRow W.heap.size 3 1 gv hs.length (intsV hs)
theorem WkSt.kb0 {S : List (List Ty)} {w0 W : World} {X : Nat} {wr : World} {t : Ty} {ta : Option Addr} {tc : Nat} {gv : Value} {hs : List Int} (h : WkSt S w0 W X wr t ta tc gv hs) (hk : KB F0 w0 W) (hX : w0.heap.size ≤ X) : KB F0 w0 wr := hk.oldS h.kb (fun k hk e => by omega)
theorem WkSt.next {S : List (List Ty)} {w0 W : World} {X : Nat} {wr w' : World} {t u : Ty} {ta ua : Option Addr} {tc uc : Nat} {gv gv' : Value} {hs : List Int} {x : Int} (h : WkSt S w0 W X wr t ta tc gv hs) (hX : X < W.heap.size)
    (hon : OnWay S w0 u ua uc) (hown : w'.ownsRow W.heap.size 3 1 gv' (hs.length + 1) (intsV hs ++ [.int .i64 x])) (hgr : (wr.alloc (.cells #[.int .i64 x] 3)).grownBy w' gv.ownBlock) :
    KB (fun k => k = X) W w' ∧ w'.heap[X]? = some (tyObj t ta tc) ∧ WkSt S w0 W X (set5 w' X (.int .u8 u.k) (.bool u.m) (.int .i64 u.r) (.int .i64 u.s) (.slice ua u.of.length uc)) u ua uc gv' (hs ++ [x]) := by
  have ka := (KB.refl F0 wr).alloc (.cells #[.int .i64 x] 3)
  have k1 : KB (fun k => k = X) W (wr.alloc (.cells #[.int .i64 x] 3)) := h.kb.trans (ka.mono (fun _ _ x => x.elim))
  have k2 : KB (fun k => k = X) W w' := k1.grown hgr (fun k e hk => by
    obtain ⟨c1, h1, h2⟩ := own_block h.own e
    omega)
  have hX2 : w'.heap[X]? = some (tyObj t ta tc) := by
    rw [hgr.block X (heap_lt (ka.heap (fun x => x) h.cell)) (fun e => by
      obtain ⟨c1, h1, h2⟩ := own_block h.own e.symm
      omega)]
    exact ka.heap (fun x => x) h.cell
  refine ⟨k2, hX2, ⟨k2.trans (set5_kb w' X _ _ _ _ _), set5_blk hX2 _ _ _ _ _, hon, ?_⟩⟩
  rw [List.length_append, show intsV (hs ++ [x]) = intsV hs ++ [.int .i64 x] by simp [intsV]]
  exact own_kb hown (set5_kb w' X _ _ _ _ _) (fun k e1 e2 => by
    obtain ⟨c1, h1, h2⟩ := own_block hown e1
    omega)
end Go.Proofs.YtpigppghcghpbaaGreatDoor

/- Types in memory: api.Type, lists of types, fields, structs. types.look. types.regions. -/
import Derived.Test.YtpigppghcghpbaaGreatDoorMg13
import Derived.Test.YtpigppghcghpbaaGreatDoorMg04
import Derived.Deep.DeepCutAuto
namespace Go.Proofs.YtpigppghcghpbaaGreatDoor
open Go.RowKit

/-- A type by value, its list of types at 'a'. -/
def tyV (t : Ty) (a : Option Addr) (c : Nat) : Value := .agg #[.int .u8 t.k, .bool t.m, .int .i64 t.r, .int .i64 t.s, .slice a t.of.length c]
/-- The five cells of a type at an address. -/
structure TyCells (w : World) (b o : Nat) (t : Ty) (a : Option Addr) (c : Nat) : Prop where
  k : w.cell? ⟨b, o, none⟩ = some (.int .u8 t.k)
  m : w.cell? ⟨b, o + 1, none⟩ = some (.bool t.m)
  r : w.cell? ⟨b, o + 2, none⟩ = some (.int .i64 t.r)
  s : w.cell? ⟨b, o + 3, none⟩ = some (.int .i64 t.s)
  of : w.cell? ⟨b, o + 4, none⟩ = some (.slice a t.of.length c)
theorem TyCells.kbF {w w' : World} {b o : Nat} {t : Ty} {a : Option Addr} {c : Nat} (h : TyCells w b o t a c) (hk : KB F0 w w') : TyCells w' b o t a c :=
  ⟨hk.cell (p := ⟨b, o, none⟩) (fun x => x) h.k, hk.cell (p := ⟨b, o + 1, none⟩) (fun x => x) h.m, hk.cell (p := ⟨b, o + 2, none⟩) (fun x => x) h.r, hk.cell (p := ⟨b, o + 3, none⟩) (fun x => x) h.s, hk.cell (p := ⟨b, o + 4, none⟩) (fun x => x) h.of⟩
theorem TyCells.of_block {w : World} {b : Nat} {t : Ty} {a : Option Addr} {c : Nat} {ty : TypeId} (h : w.heap[b]? = some (.cells #[.int .u8 t.k, .bool t.m, .int .i64 t.r, .int .i64 t.s, .slice a t.of.length c] ty (0, 0))) : TyCells w b 0 t a c :=
  ⟨blk_cell h 0, blk_cell h 1, blk_cell h 2, blk_cell h 3, blk_cell h 4⟩
/-- The types in a type lie in memory, so deep. -/
def TyAt : Nat → World → Ty → Option Addr → Nat → Prop
  | 0, _, _, _, _ => True
  | n + 1, w, t, a, c => t.of.length ≤ c ∧ ∀ i, i < t.of.length → ∃ b o a' c', a = some ⟨b, o, none⟩ ∧ TyCells w b (o + i * 5) (t.of.getD i ty0) a' c' ∧ TyAt n w (t.of.getD i ty0) a' c'
theorem TyAt.kbF {w w' : World} (hk : KB F0 w w') : ∀ {n : Nat} {t : Ty} {a : Option Addr} {c : Nat}, TyAt n w t a c → TyAt n w' t a c := by
  intro n
  induction n with
  | zero => intro t a c _; trivial
  | succ n ih =>
    intro t a c h
    refine ⟨h.1, fun i hi => ?_⟩
    obtain ⟨b, o, a', c', e, h1, h2⟩ := h.2 i hi
    exact ⟨b, o, a', c', e, h1.kbF hk, ih h2⟩
theorem TyAt.le {w : World} : ∀ {n m : Nat} {t : Ty} {a : Option Addr} {c : Nat}, TyAt n w t a c → m ≤ n → TyAt m w t a c := by
  intro n
  induction n with
  | zero => intro m t a c _ hm; obtain rfl : m = 0 := by omega
            trivial
  | succ n ih =>
    intro m t a c h hm
    cases m with
    | zero => trivial
    | succ m =>
      refine ⟨h.1, fun i hi => ?_⟩
      obtain ⟨b, o, a', c', e, h1, h2⟩ := h.2 i hi
      exact ⟨b, o, a', c', e, h1, ih h2 (by omega)⟩
/-- The first of a type's types. -/
theorem TyAt.in0 {w : World} {n : Nat} {t : Ty} {a : Option Addr} {c : Nat} (h : TyAt (n + 1) w t a c) (hl : 0 < t.of.length) : ∃ b o a' c', a = some ⟨b, o, none⟩ ∧ TyCells w b o (in0 t) a' c' ∧ TyAt n w (in0 t) a' c' := by
  obtain ⟨b, o, a', c', e, h1, h2⟩ := h.2 0 hl
  rw [Nat.zero_mul, Nat.add_zero] at h1
  exact ⟨b, o, a', c', e, h1, h2⟩
/-- A list of types in memory. -/
def TysAt (n : Nat) (w : World) (a : Option Addr) (l : List Ty) : Prop := ∀ i, i < l.length → ∃ b o a' c', a = some ⟨b, o, none⟩ ∧ TyCells w b (o + i * 5) (l.getD i ty0) a' c' ∧ TyAt n w (l.getD i ty0) a' c'
/-- Fields in memory: a name and a type each. -/
def FdsAt (n : Nat) (w : World) (a : Option Addr) (l : List Ty) : Prop := ∀ i, i < l.length → ∃ b o nm a' c', a = some ⟨b, o, none⟩ ∧ w.cell? ⟨b, o + i * 6, none⟩ = some (.string nm) ∧ TyCells w b (o + i * 6 + 1) (l.getD i ty0) a' c' ∧ TyAt n w (l.getD i ty0) a' c'
/-- Structs in memory, by their fields' types. -/
def StsAt (n : Nat) (w : World) (a : Option Addr) (S : List (List Ty)) : Prop := ∀ i, i < S.length → ∃ b o nm fa fc, a = some ⟨b, o, none⟩ ∧ w.cell? ⟨b, o + i * 2, none⟩ = some (.string nm) ∧ w.cell? ⟨b, o + i * 2 + 1, none⟩ = some (.slice fa (S.getD i []).length fc) ∧ (S.getD i []).length ≤ fc ∧ FdsAt n w fa (S.getD i [])
section
variable {n : Nat} {w w' : World} {a : Option Addr}
theorem TysAt.kbF {l : List Ty} (h : TysAt n w a l) (hk : KB F0 w w') : TysAt n w' a l := fun i hi => by
  obtain ⟨b, o, a', c', e, h1, h2⟩ := h i hi
  exact ⟨b, o, a', c', e, h1.kbF hk, h2.kbF hk⟩
theorem FdsAt.kbF {l : List Ty} (h : FdsAt n w a l) (hk : KB F0 w w') : FdsAt n w' a l := fun i hi => by
  obtain ⟨b, o, nm, a', c', e, h0, h1, h2⟩ := h i hi
  exact ⟨b, o, nm, a', c', e, hk.cell (p := ⟨b, o + i * 6, none⟩) (fun x => x) h0, h1.kbF hk, h2.kbF hk⟩
theorem StsAt.kbF {S : List (List Ty)} (h : StsAt n w a S) (hk : KB F0 w w') : StsAt n w' a S := fun i hi => by
  obtain ⟨b, o, nm, fa, fc, e, h0, h1, h2, h3⟩ := h i hi
  exact ⟨b, o, nm, fa, fc, e, hk.cell (p := ⟨b, o + i * 2, none⟩) (fun x => x) h0, hk.cell (p := ⟨b, o + i * 2 + 1, none⟩) (fun x => x) h1, h2, h3.kbF hk⟩
end
theorem look_zero (S : Nat) (t : Ty) : lookB S 0 t = false := rfl
end Go.Proofs.YtpigppghcghpbaaGreatDoor

namespace Go.Proofs.YtpigppghcghpbaaGreatDoor
open Go.RowKit

/-- A type boxed: the world, and its cells. -/
theorem boxTy (w : World) (t : Ty) (a : Option Addr) (c : Nat) : KB F0 w (w.alloc (.cells #[.int .u8 t.k, .bool t.m, .int .i64 t.r, .int .i64 t.s, .slice a t.of.length c] 36)) ∧
    (w.alloc (.cells #[.int .u8 t.k, .bool t.m, .int .i64 t.r, .int .i64 t.s, .slice a t.of.length c] 36)).heap[w.heap.size]? = some (.cells #[.int .u8 t.k, .bool t.m, .int .i64 t.r, .int .i64 t.s, .slice a t.of.length c] 36 (0, 0)) :=
  ⟨(KB.refl _ _).alloc _, alloc_new _ _⟩
set_option maxRecDepth 100000 in
set_option maxHeartbeats 16000000 in
theorem look_any (S : Nat) : ∀ n : Nat, n ≤ 100 → ∀ (t : Ty) (a : Option Addr) (c : Nat) (w : World), TyAt (n + 1) w t a c →
    Calls Tryz.prog 77 #[tyV t a c, .int .i64 S, .int .i64 n] w fun e w' => e = .returned (.bool (lookB S n t)) ∧ KB F0 w w' := by
  intro n
  induction n with
  | zero =>
    intro _ t a c w _
    obtain ⟨w0, rfl⟩ : ∃ w0, w0 = w := ⟨_, rfl⟩
    obtain ⟨W, hW⟩ : ∃ W, W = w0.alloc (.cells #[.int .u8 t.k, .bool t.m, .int .i64 t.r, .int .i64 t.s, .slice a t.of.length c] 36) := ⟨_, rfl⟩
    obtain ⟨kb, hb⟩ := boxTy w0 t a c
    rw [← hW] at kb hb
    have HB := Lib.hid (And.intro kb hb)
    have HW := Lib.hid hW
    clear kb hb hW
    unfold tyV
    go_enter Tryz.func77, Tryz.ntmps77
    go_wp2_with fail
    go_ret
    exact ⟨rfl, by rw [← HW.out]; exact HB.out.1⟩
  | succ n ih =>
    intro hn t a c w h
    obtain ⟨w0, rfl⟩ : ∃ w0, w0 = w := ⟨_, rfl⟩
    obtain ⟨W, hW⟩ : ∃ W, W = w0.alloc (.cells #[.int .u8 t.k, .bool t.m, .int .i64 t.r, .int .i64 t.s, .slice a t.of.length c] 36) := ⟨_, rfl⟩
    obtain ⟨kb, hb⟩ := boxTy w0 t a c
    rw [← hW] at kb hb
    have hw := h.kbF kb
    have HB := Lib.hid (And.intro kb hb)
    have HW := Lib.hid hW
    have tc := TyCells.of_block hb
    rw [lookB_succ]
    obtain ⟨hc0, hc1, hc2, hc3, hc4⟩ := tc
    simp only [Nat.zero_add] at hc0 hc1 hc2 hc3 hc4
    have hLc : t.of.length ≤ c := hw.1
    have hw1 : IntKind.i64.wrap (((n + 1 : Nat) : Int) - 1) = (n : Int) := by rw [w64 (by omega) (by omega)]; omega
    have ht0 : (((n + 1 : Nat) : Int) == 0) = false := by simp; omega
    unfold tyV
    by_cases hl : t.of.length = 1
    · have hl0 : 0 < t.of.length := by omega
      obtain ⟨b, o, a', c', rfl, ic, iw⟩ := hw.in0 hl0
      have LK := fun (V : World) (hk : KB F0 W V) => ih (by omega) (in0 t) a' c' V (iw.kbF hk)
      unfold tyV at LK
      obtain ⟨i0, i1, i2, i3, i4⟩ := ic
      have h1c : (1 : Int) ≤ (c : Int) := by omega
      rw [decide_eq_true hl, Bool.true_and]
      generalize lookB S n (in0 t) = q at LK ⊢
      generalize in0 t = u at LK i0 i1 i2 i3 i4
      obtain ⟨R, hR⟩ : ∃ R, R = lookV S t.k t.m t.r t.s t.of.length q := ⟨_, rfl⟩
      rw [← hR]
      rw [hl] at HB HW hc4 hR ⊢
      have LK2 := Lib.hid LK
      clear hw h ih LK iw kb hb hW hl hl0 hLc
      generalize t.k = k at *
      generalize t.m = m at *
      generalize t.r = rg at *
      generalize t.s = st at *
      have HR := Lib.hid hR
      clear hR
      go_enter Tryz.func77, Tryz.ntmps77
      go_upto_region 1 with fail
      rw [← HW.out]
      go_wp2_with fail
      refine (LK2.out _ (KB.refl _ _)).mono ?_
      rintro e w1 ⟨rfl, k1⟩
      have hb := k1.heap (fun x => x) HB.out.2
      have d0 : w1.cell? ⟨w0.heap.size, 0, none⟩ = some (.int .u8 k) := blk_cell hb 0
      have d1 : w1.cell? ⟨w0.heap.size, 1, none⟩ = some (.bool m) := blk_cell hb 1
      have d2 : w1.cell? ⟨w0.heap.size, 2, none⟩ = some (.int .i64 rg) := blk_cell hb 2
      have d3 : w1.cell? ⟨w0.heap.size, 3, none⟩ = some (.int .i64 st) := blk_cell hb 3
      have d4 : w1.cell? ⟨w0.heap.size, 4, none⟩ = some (.slice (some ⟨b, o, none⟩) 1 c) := blk_cell hb 4
      have KX := Lib.hid (HB.out.1.trans k1)
      clear hc0 hc1 hc2 hc3 hc4 i0 i1 i2 i3 i4 k1 hb
      go_wp2_with fail
      all_goals
        go_ret
        refine ⟨ret_eq (congrArg Value.bool ?_), KX.out⟩
        rw [HR.out]
        clear HR KX HB HW LK2 d0 d1 d2 d3 d4 hw1 ht0 h1c
        unfold lookV
        simp_all
        try (first | omega | (intro h1 h2; omega) | (intro h1; omega) | (rw [Bool.eq_iff_iff]; simp; omega) | (rw [Bool.eq_iff_iff]; simp; done))
    · have hl1 : ((t.of.length : Int) == 1) = false := by simp; omega
      rw [decide_eq_false hl, Bool.false_and]
      obtain ⟨L, hL⟩ : ∃ L, L = t.of.length := ⟨_, rfl⟩
      obtain ⟨R, hR⟩ : ∃ R, R = lookV S t.k t.m t.r t.s t.of.length false := ⟨_, rfl⟩
      rw [← hR]
      rw [← hL] at HB HW hc4 hR hl1 ⊢
      clear hw h ih kb hb hW hl hL hLc
      generalize t.k = k at *
      generalize t.m = m at *
      generalize t.r = rg at *
      generalize t.s = st at *
      have HR := Lib.hid hR
      clear hR
      go_enter Tryz.func77, Tryz.ntmps77
      go_upto_region 1 with fail
      rw [← HW.out]
      go_wp2_with fail
      all_goals
        go_ret
        refine ⟨ret_eq (congrArg Value.bool ?_), HB.out.1⟩
        rw [HR.out]
        clear HR HB HW hc0 hc1 hc2 hc3 hc4 hw1 ht0 hl1
        unfold lookV
        simp_all
        try (first | omega | (intro h1 h2; omega) | (intro h1; omega) | (rw [Bool.eq_iff_iff]; simp; omega) | (rw [Bool.eq_iff_iff]; simp; done))
end Go.Proofs.YtpigppghcghpbaaGreatDoor

namespace Go.Proofs.YtpigppghcghpbaaGreatDoor
open Go.RowKit

def intsV (l : List Int) : List Value := l.map (Value.int .i64)
theorem Tryz.infoIntV : (Tryz.prog.info? 3).map (fun i => (i.zero, i.size, i.bytes)) = some (some (.int .i64 0), 1, 8) := by kernel_rfl
/-- The numbers that are gathered so far, in the cell X. -/
structure RegAt (w0 w : World) (X : Nat) (xs : List Int) (v : Value) : Prop where
  kb : KB F0 w0 w
  lo : w0.heap.size ≤ X
  cell : w.heap[X]? = some (.cells #[v] 37 (0, 0))
  own : w.ownsRow w0.heap.size 3 1 v xs.length (intsV xs)
set_option maxRecDepth 100000 in
set_option maxHeartbeats 8000000 in
theorem regions1_any (w0 w : World) (X b o : Nat) (xs : List Int) (rg : Int) (v : Value) (hl : xs.length ≤ 1000) (hR : RegAt w0 w X xs v) (hc : w0.cell? ⟨b, o + 2, none⟩ = some (.int .i64 rg)) :
    Calls Tryz.prog 101 #[.pointer (some ⟨b, o, none⟩), .pointer (some ⟨X, 0, none⟩)] w fun e w' => e = .returned (.tuple #[]) ∧ ∃ v', RegAt w0 w' X (xs ++ [rg]) v' := by
  have hc2 := hR.kb.cell (p := ⟨b, o + 2, none⟩) (fun x => x) hc
  have x0 : w.cell? ⟨X, 0, none⟩ = some v := blk_cell hR.cell 0
  obtain ⟨N, hN⟩ : ∃ N, N = xs.length := ⟨_, rfl⟩
  have HR := Lib.hid (And.intro hR hN)
  have hz := hR.kb.size
  obtain ⟨w1, rfl⟩ : ∃ w1, w1 = w := ⟨_, rfl⟩
  rw [← hN] at hl
  clear hc hR hN
  go_enter Tryz.func101, Tryz.ntmps101
  refine wp_region_rv 6 GK (kindW [(5, OneRow w1.heap.size #[.int .i64 rg] 3, OneRowAt w1.heap.size #[.int .i64 rg] 3)]) (by kernel_rfl) (by kernel_rfl) (kb_trans _) (kb_refl _) (kb_start _ _) (kindW_mono _ (by intro p hp; simp only [List.mem_cons, List.not_mem_nil, or_false] at hp; subst hp; exact lasts_row _ _ _)) ?_
  simp only [List.take_succ_cons, List.take_zero, List.drop_succ_cons, List.drop_zero]
  iterate 5 (refine rv_det (by kernel_rfl) rfl (by intro w hG hH; have hc0 := KB.cell hG (fun x => x) (x0); have hc1 := KB.cell hG (fun x => x) (hc2); go_simp; first | done | with_reducible rfl) ?_; simp only [Act.put, List.setIfInBounds_toArray, List.set_cons_zero, List.set_cons_succ])
  refine rv_rel (by kernel_rfl) rfl ⟨.slice (some ⟨_, 0, none⟩) 1 1, _, rfl, Nat.le_refl _⟩ (fun w hG hH => opVal_row hG (by go_simp; first | done | rfl)) ?_
  rintro v ⟨nb, rfl, hnb⟩
  simp only [Act.put, List.setIfInBounds_toArray, List.set_cons_zero, List.set_cons_succ]
  refine rv_nil (fun w hG hH => ?_)
  have hrow : OneRowAt w1.heap.size #[.int .i64 rg] 3 (.slice (some ⟨nb, 0, none⟩) 1 1) w := hH (5, fun w => OneRowAt w1.heap.size #[.int .i64 rg] 3 (.slice (some ⟨nb, 0, none⟩) 1 1) w) List.mem_cons_self
  obtain ⟨nb', e, -, hrow⟩ := hrow
  simp only [Value.slice.injEq, Option.some.injEq, Addr.mk.injEq, and_true] at e
  subst e
  have HG2 := Lib.hid (And.intro hG (And.intro (own_kb HR.out.1.own hG (fun _ _ x => x)) (hG.heap (fun x => x) HR.out.1.cell)))
  have hsw := hG.size
  clear hG hH hc2
  go_wp2_with (at_builtin; refine Stopped.out ?_)
  refine ⟨?_⟩
  have ho := HG2.out.2.1
  rw [← HR.out.2] at ho
  refine app1 37 3 w0.heap.size (.int .i64 rg) Tryz.infoIntV Tryz.underlying37 rfl ho rfl rfl rfl rfl (blk_cell hrow 0) rfl (by unfold maxLen; omega) (by omega) (by omega) ?_
  intro v' w' hown' hgr
  have hne : ∀ {u : Value} {n : Nat} {ys : List Value} {V : World} {g : Nat} {c : Array Value}, V.heap[g]? = some (.cells c 37 (0, 0)) → V.ownsRow w0.heap.size 3 1 u n ys → u.ownBlock ≠ some g := fun h1 h2 e => by
    obtain ⟨c1, h3, -⟩ := own_block h2 e
    rw [h1] at h3
    simp only [Option.some.injEq, Obj.cells.injEq] at h3
    exact absurd h3.2.1 (by decide)
  have hX2 : w'.heap[X]? = some (.cells #[v] 37 (0, 0)) := by
    rw [hgr.block X (heap_lt HG2.out.2.2) (fun e => hne HG2.out.2.2 ho e.symm)]; exact HG2.out.2.2
  have y0 : w'.cell? ⟨X, 0, none⟩ = some v := blk_cell hX2 0
  have y0f := blk_frozen hX2 0
  have kF : KB F0 w0 w' := (HR.out.1.kb.trans HG2.out.1).grown hgr (fun k e h => by
    obtain ⟨c1, h1, h2⟩ := own_block ho e
    omega)
  obtain ⟨va, vc, e2⟩ : ∃ a c, v' = .slice a (N + 1) c := by
    obtain ⟨a, c, e, -⟩ := own_shape hown'
    exact ⟨a, c, e⟩
  subst e2
  have HE : Hid (RegAt w0 (w'.setCell ⟨X, 0, none⟩ (.slice va (N + 1) vc)) X (xs ++ [rg]) (.slice va (N + 1) vc)) := Lib.hid (by
    refine ⟨kF.setCell (p := ⟨X, 0, none⟩) (fun (h : X < w0.heap.size) => absurd h (by have := HR.out.1.lo; omega)) _, HR.out.1.lo, setCell_blk (i := 0) hX2 _, ?_⟩
    have h1 := own_kb hown' (kb_set w' X 0 (.slice va (N + 1) vc)) (fun g e1 e2 => by subst e2; exact hne hX2 hown' e1)
    rw [List.length_append, show intsV (xs ++ [rg]) = intsV xs ++ [.int .i64 rg] by simp [intsV], ← HR.out.2]
    exact h1)
  clear hown' hgr hX2 hrow x0 kF ho
  go_wp2_with fail
  go_end0
  exact ⟨rfl, _, HE.out⟩
/-- So deep at most, by the first types. -/
def Deep : Nat → Ty → Prop
  | 0, _ => False
  | n + 1, t => t.of.length = 0 ∨ Deep n (in0 t)
theorem look_deep {S : Nat} : ∀ {n : Nat} {t : Ty}, lookB S n t = true → Deep n t := by
  intro n
  induction n with
  | zero => intro t h; cases h
  | succ n ih =>
    intro t h
    rw [lookB_succ] at h
    by_cases h1 : t.of.length = 1
    · rw [decide_eq_true h1, Bool.true_and] at h
      cases hq : lookB S n (in0 t) with
      | true => exact Or.inr (ih hq)
      | false =>
        rw [hq] at h
        unfold lookV at h
        simp [h1] at h
    · refine Or.inl ?_
      rw [decide_eq_false h1, Bool.false_and] at h
      unfold lookV at h
      by_cases h0 : t.of.length = 0
      · exact h0
      · simp [h0] at h
def RegEnd (w0 : World) (X : Nat) (xs : List Int) (e : Ending) (w' : World) : Prop := e = .returned (.tuple #[]) ∧ ∃ v', RegAt w0 w' X xs v'
set_option maxRecDepth 100000 in
set_option maxHeartbeats 8000000 in
theorem tyWalk_any (w0 : World) (X : Nat) : ∀ (n : Nat) (t : Ty) (b o : Nat) (a : Option Addr) (c : Nat) (w : World) (xs : List Int) (v : Value), n + xs.length ≤ 1000 → TyCells w0 b o t a c → TyAt n w0 t a c → Deep n t → RegAt w0 w X xs v →
    Calls Tryz.prog 100 #[.pointer (some ⟨b, o, none⟩), .func (.func 101) #[] #[.pointer (some ⟨X, 0, none⟩)]] w (RegEnd w0 X (xs ++ regsF n t)) := by
  intro n
  induction n with
  | zero => intro t b o a c w xs v _ _ _ h; exact h.elim
  | succ n ih =>
    intro t b o a c w xs v hl hc ht hd hR
    obtain ⟨w1, rfl⟩ : ∃ w1, w1 = w := ⟨_, rfl⟩
    obtain ⟨L, hL⟩ : ∃ L, L = t.of.length := ⟨_, rfl⟩
    have hof := hc.of
    rw [← hL] at hof
    have c0 := hR.kb.cell (p := ⟨b, o, none⟩) (fun x => x) hc.k
    have c4 := hR.kb.cell (p := ⟨b, o + 4, none⟩) (fun x => x) hof
    have HC4 := Lib.hid hof
    have hLc : L ≤ c := by rw [hL]; exact ht.1
    clear hof
    by_cases hk : t.k = 4
    · have R1 := Lib.hid (regions1_any w0 w1 X b o xs t.r v (by omega) hR hc.r)
      rw [hk] at c0
      by_cases h0 : L = 0
      · subst h0
        have HG : Hid (xs ++ regsF (n + 1) t = (xs ++ [t.r])) := Lib.hid (by simp [regsF, hk, ← hL])
        clear hc ht hd hR hk hLc ih hL
        go_enter Tryz.func100, Tryz.ntmps100
        go_wp2_with fail
        refine R1.out.mono ?_
        rintro e w2 ⟨rfl, v2, h2⟩
        have d4 := h2.kb.cell (p := ⟨b, o + 4, none⟩) (fun x => x) HC4.out
        have H2 := Lib.hid h2
        clear h2 c0 c4
        go_wp2_with fail
        go_end0
        exact ⟨rfl, _, by rw [HG.out]; exact H2.out⟩
      · have hl0 : 0 < t.of.length := by omega
        have HG : Hid (xs ++ regsF (n + 1) t = (xs ++ [t.r]) ++ regsF n (in0 t)) := Lib.hid (by simp [regsF, hk, ← hL, h0])
        obtain ⟨b', o', a', c', rfl, ic, iw⟩ := ht.in0 hl0
        have hd' : Deep n (in0 t) := hd.resolve_left (by omega)
        have IH := Lib.hid (fun (V : World) (v' : Value) (hV : RegAt w0 V X (xs ++ [t.r]) v') => ih (in0 t) b' o' a' c' V (xs ++ [t.r]) v' (by first | omega | (simp; omega)) ic iw hd' hV)
        have g1 : (0 : Int) < (L : Int) := by omega
        have g2 : decide ((0 : Int) < (L : Int)) = true := decide_eq_true g1
        have g3 : 0 < L := by omega
        clear hc ht hd hR hk hLc ih hL h0 hl0 ic iw hd'
        go_enter Tryz.func100, Tryz.ntmps100
        go_wp2_with fail
        refine R1.out.mono ?_
        rintro e w2 ⟨rfl, v2, h2⟩
        have d4 := h2.kb.cell (p := ⟨b, o + 4, none⟩) (fun x => x) HC4.out
        have H2 := Lib.hid h2
        clear h2 c0 c4
        go_wp2_with fail
        refine (IH.out _ _ H2.out).mono ?_
        rintro e w3 ⟨rfl, v3, h3⟩
        have H3 := Lib.hid h3
        clear h3 d4
        go_wp2_with fail
        go_end0
        exact ⟨rfl, _, by rw [HG.out]; exact H3.out⟩
    · have hk4 : (t.k == 4) = false := by simpa using hk
      have H2 := Lib.hid hR
      generalize t.k = k at c0 hk4
      by_cases h0 : L = 0
      · subst h0
        have HG : Hid (xs ++ regsF (n + 1) t = xs) := Lib.hid (by simp [regsF, hk, ← hL])
        clear hc ht hd hR hk hLc ih hL
        go_enter Tryz.func100, Tryz.ntmps100
        go_wp2_with fail
        go_end0
        exact ⟨rfl, _, by rw [HG.out]; exact H2.out⟩
      · have hl0 : 0 < t.of.length := by omega
        have HG : Hid (xs ++ regsF (n + 1) t = xs ++ regsF n (in0 t)) := Lib.hid (by simp [regsF, hk, ← hL, h0])
        obtain ⟨b', o', a', c', rfl, ic, iw⟩ := ht.in0 hl0
        have hd' : Deep n (in0 t) := hd.resolve_left (by omega)
        have IH := Lib.hid (fun (V : World) (v' : Value) (hV : RegAt w0 V X xs v') => ih (in0 t) b' o' a' c' V xs v' (by first | omega | (simp; omega)) ic iw hd' hV)
        have g1 : (0 : Int) < (L : Int) := by omega
        have g2 : decide ((0 : Int) < (L : Int)) = true := decide_eq_true g1
        have g3 : 0 < L := by omega
        clear hc ht hd hR hk hLc ih hL h0 hl0 ic iw hd'
        go_enter Tryz.func100, Tryz.ntmps100
        go_wp2_with fail
        refine (IH.out _ _ H2.out).mono ?_
        rintro e w3 ⟨rfl, v3, h3⟩
        have H3 := Lib.hid h3
        clear h3 c0 c4
        go_wp2_with fail
        go_end0
        exact ⟨rfl, _, by rw [HG.out]; exact H3.out⟩
set_option maxRecDepth 100000 in
set_option maxHeartbeats 8000000 in
theorem regions_any (n : Nat) (hn : n ≤ 900) (t : Ty) (a : Option Addr) (c : Nat) (w : World) (ht : TyAt n w t a c) (hd : Deep n t) :
    Calls Tryz.prog 78 #[tyV t a c] w fun e w' => ∃ v, e = .returned v ∧ w'.ownsRow w.heap.size 3 1 v (regsF n t).length (intsV (regsF n t)) ∧ KB F0 w w' := by
  obtain ⟨w0, rfl⟩ : ∃ w0, w0 = w := ⟨_, rfl⟩
  obtain ⟨kb, hb⟩ := boxTy w0 t a c
  obtain ⟨W1, hW1⟩ : ∃ W, W = w0.alloc (.cells #[.int .u8 t.k, .bool t.m, .int .i64 t.r, .int .i64 t.s, .slice a t.of.length c] 36) := ⟨_, rfl⟩
  rw [← hW1] at kb hb
  obtain ⟨W2, hW2⟩ : ∃ W, W = W1.alloc (.cells #[.slice none 0 0] 37) := ⟨_, rfl⟩
  have k2 := (KB.refl F0 W1).alloc (.cells #[.slice none 0 0] 37)
  have hb2 := alloc_new W1 (.cells #[.slice none 0 0] 37)
  rw [← hW2] at k2 hb2
  have hR : RegAt W1 W2 W1.heap.size [] (.slice none 0 0) := ⟨k2, Nat.le_refl _, hb2, World.ownsRow_nil _ _ _ _⟩
  have CL := Lib.hid (tyWalk_any W1 W1.heap.size n t w0.heap.size 0 a c W2 [] _ (by simp; omega) (TyCells.of_block hb) (ht.kbF kb) hd hR)
  have HW := Lib.hid (And.intro hW1 hW2)
  have HK := Lib.hid kb
  clear kb hb k2 hb2 hR ht hd
  unfold tyV
  go_enter Tryz.func78, Tryz.ntmps78
  go_upto_region 1 with fail
  rw [← hW1]
  clear hW1
  go_upto_region 2 with fail
  rw [← hW2]
  clear hW2
  go_wp2_with fail
  refine CL.out.mono ?_
  rintro e w3 ⟨rfl, v, h3⟩
  have x0 : w3.cell? ⟨W1.heap.size, 0, none⟩ = some v := blk_cell h3.cell 0
  have H3 := Lib.hid h3
  clear h3
  go_wp2_with fail
  go_ret
  exact ⟨_, rfl, own_base H3.out.own HK.out.size, HK.out.trans H3.out.kb⟩
end Go.Proofs.YtpigppghcghpbaaGreatDoor

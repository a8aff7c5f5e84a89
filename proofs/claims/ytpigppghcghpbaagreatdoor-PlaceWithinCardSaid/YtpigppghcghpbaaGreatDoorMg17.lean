/- Types in memory: api.Type, lists of types, fields, structs. types.look. -/
import Derived.Test.YtpigppghcghpbaaGreatDoorMg16
import Derived.Test.YtpigppghcghpbaaGreatDoorMg04
import Derived.Deep.DeepCutAuto
namespace Go.Proofs.YtpigppghcghpbaaGreatDoor
open Go.RowKit

/-- A type by value, its list of types at 'a'. -/
def tyV (t : Ty) (a : Option Addr) (c : Nat) : Value := .agg #[.int .u8 t.k, .bool t.m, .int .i64 t.r, .int .i64 t.s, .slice a t.of.length c]
/-- The five cells of a type at an address. -/
structure TyCells (w : World) (b o : Nat) (t : Ty) (a : Option Addr) (c : Nat) : Prop where
  k : w.cell? ⟨b, o, none⟩ = some (.int .u8 t.k)
  m : w.cell? ⟨b, o + 1, none⟩ = some (.bool t.m)
  r : w.cell? ⟨b, o + 2, none⟩ = some (.int .i64 t.r)
  s : w.cell? ⟨b, o + 3, none⟩ = some (.int .i64 t.s)
  of : w.cell? ⟨b, o + 4, none⟩ = some (.slice a t.of.length c)
theorem TyCells.kbF {w w' : World} {b o : Nat} {t : Ty} {a : Option Addr} {c : Nat} (h : TyCells w b o t a c) (hk : KB F0 w w') : TyCells w' b o t a c :=
  ⟨hk.cell (p := ⟨b, o, none⟩) (fun x => x) h.k, hk.cell (p := ⟨b, o + 1, none⟩) (fun x => x) h.m, hk.cell (p := ⟨b, o + 2, none⟩) (fun x => x) h.r, hk.cell (p := ⟨b, o + 3, none⟩) (fun x => x) h.s, hk.cell (p := ⟨b, o + 4, none⟩) (fun x => x) h.of⟩
theorem TyCells.of_block {w : World} {b : Nat} {t : Ty} {a : Option Addr} {c : Nat} {ty : TypeId} (h : w.heap[b]? = some (.cells #[.int .u8 t.k, .bool t.m, .int .i64 t.r, .int .i64 t.s, .slice a t.of.length c] ty (0, 0))) : TyCells w b 0 t a c :=
  ⟨blk_cell h 0, blk_cell h 1, blk_cell h 2, blk_cell h 3, blk_cell h 4⟩
/-- The types in a type lie in memory, so deep. -/
def TyAt : Nat → World → Ty → Option Addr → Nat → Prop
  | 0, _, _, _, _ => True
  | n + 1, w, t, a, c => t.of.length ≤ c ∧ ∀ i, i < t.of.length → ∃ b o a' c', a = some ⟨b, o, none⟩ ∧ TyCells w b (o + i * 5) (t.of.getD i ty0) a' c' ∧ TyAt n w (t.of.getD i ty0) a' c'
theorem TyAt.kbF {w w' : World} (hk : KB F0 w w') : ∀ {n : Nat} {t : Ty} {a : Option Addr} {c : Nat}, TyAt n w t a c → TyAt n w' t a c := by
  intro n
  induction n with
  | zero => intro t a c _; trivial
  | succ n ih =>
    intro t a c h
    refine ⟨h.1, fun i hi => ?_⟩
    obtain ⟨b, o, a', c', e, h1, h2⟩ := h.2 i hi
    exact ⟨b, o, a', c', e, h1.kbF hk, ih h2⟩
theorem TyAt.le {w : World} : ∀ {n m : Nat} {t : Ty} {a : Option Addr} {c : Nat}, TyAt n w t a c → m ≤ n → TyAt m w t a c := by
  intro n
  induction n with
  | zero => intro m t a c _ hm; obtain rfl : m = 0 := by omega
            trivial
  | succ n ih =>
    intro m t a c h hm
    cases m with
    | zero => trivial
    | succ m =>
      refine ⟨h.1, fun i hi => ?_⟩
      obtain ⟨b, o, a', c', e, h1, h2⟩ := h.2 i hi
      exact ⟨b, o, a', c', e, h1, ih h2 (by omega)⟩
/-- The first of a type's types. -/
theorem TyAt.in0 {w : World} {n : Nat} {t : Ty} {a : Option Addr} {c : Nat} (h : TyAt (n + 1) w t a c) (hl : 0 < t.of.length) : ∃ b o a' c', a = some ⟨b, o, none⟩ ∧ TyCells w b o (in0 t) a' c' ∧ TyAt n w (in0 t) a' c' := by
  obtain ⟨b, o, a', c', e, h1, h2⟩ := h.2 0 hl
  rw [Nat.zero_mul, Nat.add_zero] at h1
  exact ⟨b, o, a', c', e, h1, h2⟩
/-- A list of types in memory. -/
def TysAt (n : Nat) (w : World) (a : Option Addr) (l : List Ty) : Prop := ∀ i, i < l.length → ∃ b o a' c', a = some ⟨b, o, none⟩ ∧ TyCells w b (o + i * 5) (l.getD i ty0) a' c' ∧ TyAt n w (l.getD i ty0) a' c'
/-- Fields in memory: a name and a type each. -/
def FdsAt (n : Nat) (w : World) (a : Option Addr) (l : List Ty) : Prop := ∀ i, i < l.length → ∃ b o nm a' c', a = some ⟨b, o, none⟩ ∧ w.cell? ⟨b, o + i * 6, none⟩ = some (.string nm) ∧ TyCells w b (o + i * 6 + 1) (l.getD i ty0) a' c' ∧ TyAt n w (l.getD i ty0) a' c'
/-- Structs in memory, by their fields' types. -/
def StsAt (n : Nat) (w : World) (a : Option Addr) (S : List (List Ty)) : Prop := ∀ i, i < S.length → ∃ b o nm fa fc, a = some ⟨b, o, none⟩ ∧ w.cell? ⟨b, o + i * 2, none⟩ = some (.string nm) ∧ w.cell? ⟨b, o + i * 2 + 1, none⟩ = some (.slice fa (S.getD i []).length fc) ∧ (S.getD i []).length ≤ fc ∧ FdsAt n w fa (S.getD i [])
section
variable {n : Nat} {w w' : World} {a : Option Addr}
theorem TysAt.kbF {l : List Ty} (h : TysAt n w a l) (hk : KB F0 w w') : TysAt n w' a l := fun i hi => by
  obtain ⟨b, o, a', c', e, h1, h2⟩ := h i hi
  exact ⟨b, o, a', c', e, h1.kbF hk, h2.kbF hk⟩
theorem FdsAt.kbF {l : List Ty} (h : FdsAt n w a l) (hk : KB F0 w w') : FdsAt n w' a l := fun i hi => by
  obtain ⟨b, o, nm, a', c', e, h0, h1, h2⟩ := h i hi
  exact ⟨b, o, nm, a', c', e, hk.cell (p := ⟨b, o + i * 6, none⟩) (fun x => x) h0, h1.kbF hk, h2.kbF hk⟩
theorem StsAt.kbF {S : List (List Ty)} (h : StsAt n w a S) (hk : KB F0 w w') : StsAt n w' a S := fun i hi => by
  obtain ⟨b, o, nm, fa, fc, e, h0, h1, h2, h3⟩ := h i hi
  exact ⟨b, o, nm, fa, fc, e, hk.cell (p := ⟨b, o + i * 2, none⟩) (fun x => x) h0, hk.cell (p := ⟨b, o + i * 2 + 1, none⟩) (fun x => x) h1, h2, h3.kbF hk⟩
end
theorem look_zero (S : Nat) (t : Ty) : lookB S 0 t = false := rfl
end Go.Proofs.YtpigppghcghpbaaGreatDoor

namespace Go.Proofs.YtpigppghcghpbaaGreatDoor
open Go.RowKit

/-- A type boxed: the world, and its cells. -/
theorem boxTy (w : World) (t : Ty) (a : Option Addr) (c : Nat) : KB F0 w (w.alloc (.cells #[.int .u8 t.k, .bool t.m, .int .i64 t.r, .int .i64 t.s, .slice a t.of.length c] 36)) ∧
    (w.alloc (.cells #[.int .u8 t.k, .bool t.m, .int .i64 t.r, .int .i64 t.s, .slice a t.of.length c] 36)).heap[w.heap.size]? = some (.cells #[.int .u8 t.k, .bool t.m, .int .i64 t.r, .int .i64 t.s, .slice a t.of.length c] 36 (0, 0)) :=
  ⟨(KB.refl _ _).alloc _, alloc_new _ _⟩
set_option maxRecDepth 100000 in
set_option maxHeartbeats 16000000 in
theorem look_any (S : Nat) : ∀ n : Nat, n ≤ 100 → ∀ (t : Ty) (a : Option Addr) (c : Nat) (w : World), TyAt (n + 1) w t a c →
    Calls Tryz.prog 77 #[tyV t a c, .int .i64 S, .int .i64 n] w fun e w' => e = .returned (.bool (lookB S n t)) ∧ KB F0 w w' := by
  intro n
  induction n with
  | zero =>
    intro _ t a c w _
    obtain ⟨w0, rfl⟩ : ∃ w0, w0 = w := ⟨_, rfl⟩
    obtain ⟨W, hW⟩ : ∃ W, W = w0.alloc (.cells #[.int .u8 t.k, .bool t.m, .int .i64 t.r, .int .i64 t.s, .slice a t.of.length c] 36) := ⟨_, rfl⟩
    obtain ⟨kb, hb⟩ := boxTy w0 t a c
    rw [← hW] at kb hb
    have HB := Lib.hid (And.intro kb hb)
    have HW := Lib.hid hW
    clear kb hb hW
    unfold tyV
    go_enter Tryz.func77, Tryz.ntmps77
    go_wp2_with fail
    go_ret
    exact ⟨rfl, by rw [← HW.out]; exact HB.out.1⟩
  | succ n ih =>
    intro hn t a c w h
    obtain ⟨w0, rfl⟩ : ∃ w0, w0 = w := ⟨_, rfl⟩
    obtain ⟨W, hW⟩ : ∃ W, W = w0.alloc (.cells #[.int .u8 t.k, .bool t.m, .int .i64 t.r, .int .i64 t.s, .slice a t.of.length c] 36) := ⟨_, rfl⟩
    obtain ⟨kb, hb⟩ := boxTy w0 t a c
    rw [← hW] at kb hb
    have hw := h.kbF kb
    have HB := Lib.hid (And.intro kb hb)
    have HW := Lib.hid hW
    have tc := TyCells.of_block hb
    rw [lookB_succ]
    obtain ⟨hc0, hc1, hc2, hc3, hc4⟩ := tc
    simp only [Nat.zero_add] at hc0 hc1 hc2 hc3 hc4
    have hLc : t.of.length ≤ c := hw.1
    have hw1 : IntKind.i64.wrap (((n + 1 : Nat) : Int) - 1) = (n : Int) := by rw [w64 (by omega) (by omega)]; omega
    have ht0 : (((n + 1 : Nat) : Int) == 0) = false := by simp; omega
    unfold tyV
    by_cases hl : t.of.length = 1
    · have hl0 : 0 < t.of.length := by omega
      obtain ⟨b, o, a', c', rfl, ic, iw⟩ := hw.in0 hl0
      have LK := fun (V : World) (hk : KB F0 W V) => ih (by omega) (in0 t) a' c' V (iw.kbF hk)
      unfold tyV at LK
      obtain ⟨i0, i1, i2, i3, i4⟩ := ic
      have h1c : (1 : Int) ≤ (c : Int) := by omega
      rw [decide_eq_true hl, Bool.true_and]
      generalize lookB S n (in0 t) = q at LK ⊢
      generalize in0 t = u at LK i0 i1 i2 i3 i4
      obtain ⟨R, hR⟩ : ∃ R, R = lookV S t.k t.m t.r t.s t.of.length q := ⟨_, rfl⟩
      rw [← hR]
      rw [hl] at HB HW hc4 hR ⊢
      have LK2 := Lib.hid LK
      clear hw h ih LK iw kb hb hW hl hl0 hLc
      generalize t.k = k at *
      generalize t.m = m at *
      generalize t.r = rg at *
      generalize t.s = st at *
      have HR := Lib.hid hR
      clear hR
      go_enter Tryz.func77, Tryz.ntmps77
      go_upto_region 1 with fail
      rw [← HW.out]
      go_wp2_with fail
      refine (LK2.out _ (KB.refl _ _)).mono ?_
      rintro e w1 ⟨rfl, k1⟩
      have hb := k1.heap (fun x => x) HB.out.2
      have d0 : w1.cell? ⟨w0.heap.size, 0, none⟩ = some (.int .u8 k) := blk_cell hb 0
      have d1 : w1.cell? ⟨w0.heap.size, 1, none⟩ = some (.bool m) := blk_cell hb 1
      have d2 : w1.cell? ⟨w0.heap.size, 2, none⟩ = some (.int .i64 rg) := blk_cell hb 2
      have d3 : w1.cell? ⟨w0.heap.size, 3, none⟩ = some (.int .i64 st) := blk_cell hb 3
      have d4 : w1.cell? ⟨w0.heap.size, 4, none⟩ = some (.slice (some ⟨b, o, none⟩) 1 c) := blk_cell hb 4
      have KX := Lib.hid (HB.out.1.trans k1)
      clear hc0 hc1 hc2 hc3 hc4 i0 i1 i2 i3 i4 k1 hb
      go_wp2_with fail
      all_goals
        go_ret
        refine ⟨ret_eq (congrArg Value.bool ?_), KX.out⟩
        rw [HR.out]
        clear HR KX HB HW LK2 d0 d1 d2 d3 d4 hw1 ht0 h1c
        unfold lookV
        simp_all
        try (first | omega | (intro h1 h2; omega) | (intro h1; omega) | (rw [Bool.eq_iff_iff]; simp; omega) | (rw [Bool.eq_iff_iff]; simp; done))
    · have hl1 : ((t.of.length : Int) == 1) = false := by simp; omega
      rw [decide_eq_false hl, Bool.false_and]
      obtain ⟨L, hL⟩ : ∃ L, L = t.of.length := ⟨_, rfl⟩
      obtain ⟨R, hR⟩ : ∃ R, R = lookV S t.k t.m t.r t.s t.of.length false := ⟨_, rfl⟩
      rw [← hR]
      rw [← hL] at HB HW hc4 hR hl1 ⊢
      clear hw h ih kb hb hW hl hL hLc
      generalize t.k = k at *
      generalize t.m = m at *
      generalize t.r = rg at *
      generalize t.s = st at *
      have HR := Lib.hid hR
      clear hR
      go_enter Tryz.func77, Tryz.ntmps77
      go_upto_region 1 with fail
      rw [← HW.out]
      go_wp2_with fail
      all_goals
        go_ret
        refine ⟨ret_eq (congrArg Value.bool ?_), HB.out.1⟩
        rw [HR.out]
        clear HR HB HW hc0 hc1 hc2 hc3 hc4 hw1 ht0 hl1
        unfold lookV
        simp_all
        try (first | omega | (intro h1 h2; omega) | (intro h1; omega) | (rw [Bool.eq_iff_iff]; simp; omega) | (rw [Bool.eq_iff_iff]; simp; done))
end Go.Proofs.YtpigppghcghpbaaGreatDoor

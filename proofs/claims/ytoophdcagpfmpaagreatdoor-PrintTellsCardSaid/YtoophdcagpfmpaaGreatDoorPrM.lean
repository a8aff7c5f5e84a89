/- print: a function's lines. -/
import Derived.Test.YtoophdcagpfmpaaGreatDoorMg20
namespace Go.Proofs.YtoophdcagpfmpaaGreatDoor
open Go.RowKit

theorem St_fn {ts : List Nd} (h : TOk ts) {n : Nat} (hn : n < ts.length) (hk : (ts.getD n nd0).k = 4) (inn : Nat) (P : ByteArray) : St5 ts n inn P =
    if (ts.getD n nd0).l.length - 1 < (ts.getD n nd0).l.length then St5 ts (kid (ts.getD n nd0) ((ts.getD n nd0).l.length - 1)) inn (P ++ fnHead ts (ts.getD n nd0)) else [] := by
  rw [St_eq h.down hn, stN, hk]; rfl
theorem sum_le {ts : List Nd} (h : TOk ts) {n : Nat} (hn : n < ts.length) (k : Nat) : sumK (wK ts (ts.getD n nd0)) k ≤ 16384 := by
  have h1 := wK_sum h.good hn k
  have h2 := wt1_pos h.good hn
  have := h.len
  omega
theorem jnK_congr {sep : ByteArray} {f g : Nat → ByteArray} {k : Nat} (h : ∀ i, i < k → f i = g i) : jnK sep f k = jnK sep g k := by
  induction k with
  | zero => rfl
  | succ k ih => unfold jnK; rw [ih (fun i hi => h i (by omega)), h k (by omega)]; by_cases h0 : k = 0
                 · subst h0; rw [if_pos rfl, if_pos rfl, h 0 (by omega)]
                 · rw [if_neg h0, if_neg h0]
set_option maxRecDepth 100000 in
set_option maxHeartbeats 16000000 in
theorem fn_step (ts : List Nd) (h : TOk ts) (a : Option Addr) (cap : Nat) (wb : World) (X n : Nat) (hX : wb.heap.size ≤ X) (hts : NodesAt wb a ts) (hi : n < ts.length)
    (ihB : ∀ q, n < q → q < ts.length → BlockAt ts a cap wb X q) (hk4 : (ts.getD n nd0).k = 4) (w : World) (v : Value) (out : List ByteArray) (inn : Nat) (hp : Pg w X (.slice a ts.length cap) v out inn) (hb : KB F0 wb w) (hin : inn ≤ n) (hol : out.length + 2 * wt1 ts n ≤ 1000000) :
    Calls Tryz.prog 98 #[.pointer (some ⟨X, 0, none⟩), .int .i64 n] w (PgEnd w X (.slice a ts.length cap) v (out ++ St5 ts n inn (blB inn)) inn) := by
  obtain ⟨w0, rfl⟩ : ∃ w0, w0 = w := ⟨_, rfl⟩
  have hlen := h.len
  obtain ⟨k, hk, hk8, hk2, hl18, hlf, hpr, hty, hbl⟩ := h.fn hi hk4
  have hsf := St_fn h hi hk4 inn (blB inn)
  rw [if_pos (by omega)] at hsf
  rw [hsf]
  unfold fnHead
  have hss := (h.txt hi).2.1
  obtain ⟨b, off, rfl, hx⟩ := hts n hi
  obtain ⟨la, lc, hl4, hints, hlc, hlm⟩ := hx.l
  unfold maxLen at hlm
  obtain ⟨lb, lo, rfl, -⟩ := hints 0 (by omega)
  have hints : ∀ i, i < (ts.getD n nd0).l.length → wb.cell? ⟨lb, lo + i, none⟩ = some (.int .i64 ((ts.getD n nd0).l.getD i 0)) := fun i hi2 => by
    obtain ⟨lb2, lo2, e, hc⟩ := hints i hi2
    simp only [Option.some.injEq, Addr.mk.injEq, and_true] at e
    obtain ⟨rfl, rfl⟩ := e
    exact hc
  -- the lifetimes, the parameters, the answer, the block
  have hL : ∀ i, i < k → ∃ q : Nat, (ts.getD n nd0).l.getD i 0 = (q : Int) ∧ q < ts.length ∧ (ts.getD q nd0).k = 5 ∧ lfK ts (ts.getD n nd0) i = lifeB ts q ∧ wK ts (ts.getD n nd0) i = wt1 ts q := fun i hi2 => by
    have e2 := h.kid hi (i := i) (by omega)
    exact ⟨_, e2.2.2, e2.2.1, hlf i hi2, if_pos (by omega), wK_at (by omega)⟩
  have hP : ∀ i, i < (ts.getD n nd0).l.length - 2 - k → ∃ q : Nat, (ts.getD n nd0).l.getD (k + i) 0 = (q : Int) ∧ q < ts.length ∧ (ts.getD q nd0).k = 7 ∧ tdK ts (ts.getD n nd0) (k + i) = typedB ts q ∧ wK ts (ts.getD n nd0) (k + i) = wt1 ts q := fun i hi2 => by
    have e2 := h.kid hi (i := k + i) (by omega)
    exact ⟨_, e2.2.2, e2.2.1, hpr (k + i) (by omega) (by omega), if_pos (by omega), wK_at (by omega)⟩
  have eT := h.kid hi (i := (ts.getD n nd0).l.length - 2) (by omega)
  have eB := h.kid hi (i := (ts.getD n nd0).l.length - 1) (by omega)
  have hT0 : tyK ts (ts.getD n nd0) ((ts.getD n nd0).l.length - 2) = Ty ts (kid (ts.getD n nd0) ((ts.getD n nd0).l.length - 2)) := if_pos (by omega)
  have hTz := Ty_size h eT.2.1
  have hTw := wt1_pos h.good eT.2.1
  have hBw : wt1 ts (kid (ts.getD n nd0) ((ts.getD n nd0).l.length - 1)) + 1 ≤ wt1 ts n := by
    have h1 := wK_sum h.good hi (ts.getD n nd0).l.length
    have h2 : wK ts (ts.getD n nd0) ((ts.getD n nd0).l.length - 1) = wt1 ts (kid (ts.getD n nd0) ((ts.getD n nd0).l.length - 1)) := wK_at (by omega)
    obtain ⟨M1, hM1⟩ : ∃ M1, (ts.getD n nd0).l.length = M1 + 1 := ⟨(ts.getD n nd0).l.length - 1, by omega⟩
    rw [hM1] at h1 h2 ⊢
    rw [Nat.add_sub_cancel] at h2 ⊢
    have h3 : sumK (wK ts (ts.getD n nd0)) (M1 + 1) = sumK (wK ts (ts.getD n nd0)) M1 + wK ts (ts.getD n nd0) M1 := rfl
    omega
  have hLz : (jnK ⟨#[44, 32]⟩ (lfK ts (ts.getD n nd0)) k).size ≤ 4000000 := by
    have h1 := jnK_size (sep := ⟨#[44, 32]⟩) (g := lfK ts (ts.getD n nd0)) (C := 200) (w := wK ts (ts.getD n nd0)) (k := k) (fun i hi2 => by
      obtain ⟨q, h1, h2, h3, h4, h5⟩ := hL i hi2
      have h6 := life_size h h2
      rw [h4, h5]
      have : (⟨#[44, 32]⟩ : ByteArray).size = 2 := rfl
      omega)
    have h2 := sum_le h hi k
    omega
  have hPz : (parB ts (ts.getD n nd0) k).size ≤ 4000000 := by
    have h1 := jnK_size (sep := ⟨#[44, 32]⟩) (g := fun i => tdK ts (ts.getD n nd0) (k + i)) (C := 200) (w := fun i => wK ts (ts.getD n nd0) (k + i)) (k := (ts.getD n nd0).l.length - 2 - k) (fun i hi2 => by
      obtain ⟨q, h1, h2, h3, h4, h5⟩ := hP i hi2
      have h6 := typed_size h h2
      rw [h4, h5]
      have : (⟨#[44, 32]⟩ : ByteArray).size = 2 := rfl
      omega)
    have h2 := sum_le h hi (k + ((ts.getD n nd0).l.length - 2 - k))
    have h3 := sumK_shift (wK ts (ts.getD n nd0)) k ((ts.getD n nd0).l.length - 2 - k)
    unfold parB
    omega
  have KA := Lib.hid (fun (W : World) (hk : KB F0 wb W) => kind_any5 ts h (some ⟨b, off, none⟩) cap _ W eT.2.1 (hts.kbF hk) hty)
  have BL := Lib.hid (ihB _ eB.1 eB.2.1)
  have hblk := hbl
  have hkn : (ts.getD n nd0).n.toNat = k := by rw [hk]; exact Int.toNat_natCast k
  rw [hkn, hT0]
  have TL := Lib.hid (fun (W : World) (hkb : KB F0 wb W) (T : Nat) (hT : W.heap[T]? = some (.cells #[.slice (some ⟨b, off, none⟩) ts.length cap] 62 (0, 0))) => told_cap (.slice (some ⟨b, off, none⟩) ts.length cap) (some ⟨lb, lo, none⟩) k lc (fun i => (ts.getD n nd0).l.getD i 0) ⟨#[44, 32]⟩ 139 (.pointer (some ⟨T, 0, none⟩)) (lfK ts (ts.getD n nd0)) W (by omega)
      (fun i hi2 => ⟨lb, lo, rfl, hkb.cell (p := ⟨lb, lo + i, none⟩) (fun x => x) (hints i (by omega))⟩)
      (fun i hi2 W2 hk2 => by
        obtain ⟨q, h1, h2, h3, h4, h5⟩ := hL i hi2
        rw [h1, h4]
        exact life_any ts h b off cap T q W2 (hts.kbF (hkb.trans hk2)) (hk2.heap (fun x => x) hT) h2 h3) (by omega) (enters Tryz.func139 (by kernel_rfl) (by kernel_rfl)))
  have TP := Lib.hid (fun (W : World) (hkb : KB F0 wb W) (hT : W.cell? ⟨X, 0, none⟩ = some (.slice (some ⟨b, off, none⟩) ts.length cap)) => told_bound (.slice (some ⟨b, off, none⟩) ts.length cap) (some ⟨lb, lo + k, none⟩) ((ts.getD n nd0).l.length - 2 - k) (lc - k) (fun i => (ts.getD n nd0).l.getD (k + i) 0) ⟨#[44, 32]⟩ 97 (.pointer (some ⟨X, 0, none⟩)) (fun i => tdK ts (ts.getD n nd0) (k + i)) W (by omega)
      (fun i hi2 => ⟨lb, lo + k, rfl, by
        have := hkb.cell (p := ⟨lb, lo + (k + i), none⟩) (fun x => x) (hints (k + i) (by omega))
        rw [Nat.add_assoc]; exact this⟩)
      (fun i hi2 W2 hk2 => by
        obtain ⟨q, h1, h2, h3, h4, h5⟩ := hP i hi2
        rw [h1, h4]
        exact typed_any ts h b off cap X q W2 (hts.kbF (hkb.trans hk2)) (hk2.cell (p := ⟨X, 0, none⟩) (fun x => x) hT) h2 (Or.inr h3)) (by have := hPz; unfold parB at this; omega) (enters Tryz.func97 (by kernel_rfl) (by kernel_rfl)))
  rw [show jnK ⟨#[44, 32]⟩ (fun i => tdK ts (ts.getD n nd0) (k + i)) ((ts.getD n nd0).l.length - 2 - k) = parB ts (ts.getD n nd0) k from rfl] at TP
  have hT2 := hints _ (show (ts.getD n nd0).l.length - 2 < _ by omega)
  have hB2 := hints _ (show (ts.getD n nd0).l.length - 1 < _ by omega)
  rw [eT.2.2] at hT2
  rw [eB.2.2] at hB2
  unfold livesB
  have hJ0 : k = 0 → jnK ⟨#[44, 32]⟩ (lfK ts (ts.getD n nd0)) k = ByteArray.empty := fun e => by rw [e]; rfl
  generalize hJ : jnK ⟨#[44, 32]⟩ (lfK ts (ts.getD n nd0)) k = J at hLz TL hJ0 ⊢
  generalize hPP : parB ts (ts.getD n nd0) k = PP at hPz TP ⊢
  have hnq := eB.1
  have hqT := eT.2.1
  generalize kid (ts.getD n nd0) ((ts.getD n nd0).l.length - 2) = qT at hTz hTw KA hT2 hqT ⊢
  generalize kid (ts.getD n nd0) ((ts.getD n nd0).l.length - 1) = qB at BL hB2 hblk hBw hnq ⊢
  generalize Ty ts qT = TT at hTz KA ⊢
  clear hL hP hints hty hbl hlf hpr eT eB hT0 hJ hPP ihB hts hsf hkn
  generalize ts.getD n nd0 = x at hx hk4 hk hss hl4 hlc hl18 hk2 TL TP hT2 hB2 ⊢
  obtain ⟨kk, at_, m, s, l⟩ := x
  simp only at hk4 hk hss hl4 hlc hl18 hk2 TL TP hT2 hB2 ⊢
  subst hk4
  subst hk
  obtain ⟨M2, hM2⟩ : ∃ M2, l.length = M2 + 2 := ⟨l.length - 2, by omega⟩
  rw [hM2] at hl4 hlc hl18 hk2 TP hT2 hB2
  rw [show M2 + 2 - 2 = M2 by omega] at hT2 TP
  rw [show M2 + 2 - 1 = M2 + 1 by omega] at hB2
  obtain ⟨N, hN⟩ : ∃ N, N = ts.length := ⟨_, rfl⟩
  unfold BlockAt at BL
  rw [← hN] at hp TL TP KA BL hi hlen hqT ⊢
  -- the two new blocks
  obtain ⟨W0, hW0⟩ : ∃ W0, W0 = w0.alloc (.cells #[.slice (some ⟨b, off, none⟩) N cap] 62) := ⟨_, rfl⟩
  obtain ⟨M, hM⟩ : ∃ M, M = M2 + 2 := ⟨_, rfl⟩
  rw [← hM] at hl4 hlc
  obtain ⟨W1, hW1⟩ : ∃ W1, W1 = W0.alloc (.cells #[.int .u8 4, .int .i64 at_, .int .i64 (k : Nat), .string s, .slice (some ⟨lb, lo, none⟩) M lc] 44) := ⟨_, rfl⟩
  have k0 : KB F0 w0 W0 := by rw [hW0]; exact (KB.refl _ _).alloc _
  have k1 : KB F0 w0 W1 := by rw [hW1]; exact k0.alloc _
  have hs0 : W0.heap.size = w0.heap.size + 1 := by rw [hW0]; simp
  have hbT : W1.heap[w0.heap.size]? = some (.cells #[.slice (some ⟨b, off, none⟩) N cap] 62 (0, 0)) := by
    rw [hW1]; exact ((KB.refl F0 W0).alloc _).heap (fun x => x) (by rw [hW0]; exact alloc_new _ _)
  have hbN : W1.heap[w0.heap.size + 1]? = some (.cells #[.int .u8 4, .int .i64 at_, .int .i64 (k : Nat), .string s, .slice (some ⟨lb, lo, none⟩) M lc] 44 (0, 0)) := by rw [hW1, ← hs0]; exact alloc_new _ _
  have hb0 := hb.trans k0
  have c0 : W0.cell? ⟨b, off + n * 5, none⟩ = some (.int .u8 4) := hb0.cell (p := ⟨b, off + n * 5, none⟩) (fun x => x) hx.k
  have c1 : W0.cell? ⟨b, off + n * 5 + 1, none⟩ = some (.int .i64 at_) := hb0.cell (p := ⟨b, off + n * 5 + 1, none⟩) (fun x => x) hx.at_
  have c2 : W0.cell? ⟨b, off + n * 5 + 2, none⟩ = some (.int .i64 (k : Nat)) := hb0.cell (p := ⟨b, off + n * 5 + 2, none⟩) (fun x => x) hx.n
  have c3 : W0.cell? ⟨b, off + n * 5 + 3, none⟩ = some (.string s) := hb0.cell (p := ⟨b, off + n * 5 + 3, none⟩) (fun x => x) hx.s
  have c4 := hb0.cell (p := ⟨b, off + n * 5 + 4, none⟩) (fun x => x) hl4
  have p0 : w0.cell? ⟨X, 0, none⟩ = some (.slice (some ⟨b, off, none⟩) N cap) := blk_cell hp.blk 0
  have hbk1 := hb.trans k1
  have hmT := hbk1.cell (p := ⟨lb, lo + M2, none⟩) (fun x => x) hT2
  have hmB := hbk1.cell (p := ⟨lb, lo + (M2 + 1), none⟩) (fun x => x) hB2
  have p1 := k1.cell (p := ⟨X, 0, none⟩) (fun x => x) p0
  have i1 : (n : Int) < (N : Int) := by omega
  have i2 : (k : Int) ≤ (lc : Int) := by omega
  have i3 : (0 : Int) ≤ (k : Int) := by omega
  have i4 : (k : Int) ≤ (M2 : Int) := by omega
  have i5 : (M2 : Int) ≤ (lc : Int) := by omega
  have i6 : (M2 : Int) < (M : Int) := by omega
  have i7 : ((M2 + 1 : Nat) : Int) < (M : Int) := by omega
  have q1 : inn ≤ 20000 := by omega
  have q2 : out.length ≤ 1000000 := by omega
  have q3 : inn ≤ qB := by omega
  have q4 : out.length + 2 * wt1 ts qB ≤ 1000000 := by omega
  have HQ := Lib.hid (And.intro q1 (And.intro q2 (And.intro q3 (And.intro q4 hblk))))
  clear q1 q2 q3 q4
  have i8 : ¬ lc = k := by omega
  obtain ⟨L1, hL1⟩ : ∃ L1, L1 = M2 + 1 := ⟨_, rfl⟩
  rw [← hL1] at hmB i7
  have w1 : IntKind.i64.wrap ((M : Int) - 1) = (L1 : Int) := by rw [w64 (by omega) (by omega)]; omega
  have w2 : IntKind.i64.wrap ((L1 : Int) - 1) = (M2 : Int) := by rw [w64 (by omega) (by omega)]; omega
  have HK := Lib.hid (And.intro k1 (And.intro hbT (And.intro hbN (And.intro hb (And.intro hp hbk1)))))
  have HW := Lib.hid (And.intro hW1 hW0)
  obtain ⟨LL, hLL⟩ : ∃ LL, LL = if 0 < k then ⟨#[60]⟩ ++ J ++ ⟨#[62]⟩ else ByteArray.empty := ⟨_, rfl⟩
  rw [← hLL]
  have hLLz : LL.size ≤ 4000100 := by
    rw [hLL]
    split
    · simp only [ByteArray.size_append]; have : (⟨#[60]⟩ : ByteArray).size = 1 := rfl; have : (⟨#[62]⟩ : ByteArray).size = 1 := rfl; omega
    · exact Nat.zero_le _
  have HLL := Lib.hid hLL
  have HJ0 := Lib.hid hJ0
  obtain ⟨J1, hJ1⟩ : ∃ J1 : ByteArray, ⟨#[60]⟩ ++ J = J1 := ⟨_, rfl⟩
  have sJ1 : J1.size = 1 + J.size := by rw [← hJ1, ByteArray.size_append]; rfl
  have y1 : ¬ (9223372036854775807 < 1 + J.size) := by omega
  have y2 : ¬ (9223372036854775807 < J1.size + 1) := by omega
  obtain ⟨A1, hA1⟩ : ∃ A : ByteArray, ⟨#[102, 110, 32]⟩ ++ s = A := ⟨_, rfl⟩
  obtain ⟨A2, hA2⟩ : ∃ A : ByteArray, A1 ++ LL = A := ⟨_, rfl⟩
  obtain ⟨A3, hA3⟩ : ∃ A : ByteArray, A2 ++ ⟨#[40]⟩ = A := ⟨_, rfl⟩
  obtain ⟨A4, hA4⟩ : ∃ A : ByteArray, A3 ++ PP = A := ⟨_, rfl⟩
  obtain ⟨A5, hA5⟩ : ∃ A : ByteArray, A4 ++ ⟨#[41, 32, 45, 62, 32]⟩ = A := ⟨_, rfl⟩
  obtain ⟨A6, hA6⟩ : ∃ A : ByteArray, A5 ++ TT = A := ⟨_, rfl⟩
  obtain ⟨A7, hA7⟩ : ∃ A : ByteArray, A6 ++ ⟨#[32]⟩ = A := ⟨_, rfl⟩
  rw [hA1, hA2, hA3, hA4, hA5, hA6, hA7]
  have s1 : A1.size = 3 + s.size := by rw [← hA1, ByteArray.size_append]; rfl
  have s2 : A2.size = A1.size + LL.size := by rw [← hA2, ByteArray.size_append]
  have s3 : A3.size = A2.size + 1 := by rw [← hA3, ByteArray.size_append]; rfl
  have s4 : A4.size = A3.size + PP.size := by rw [← hA4, ByteArray.size_append]
  have s5 : A5.size = A4.size + 5 := by rw [← hA5, ByteArray.size_append]; rfl
  have s6 : A6.size = A5.size + TT.size := by rw [← hA6, ByteArray.size_append]
  have s7 : A7.size = A6.size + 1 := by rw [← hA7, ByteArray.size_append]; rfl
  have y3 : ¬ (9223372036854775807 < 3 + s.size) := by omega
  have y4 : ¬ (9223372036854775807 < A1.size + LL.size) := by omega
  have y5 : ¬ (9223372036854775807 < A2.size + 1) := by omega
  have y6 : ¬ (9223372036854775807 < A3.size + PP.size) := by omega
  have y7 : ¬ (9223372036854775807 < A4.size + 5) := by omega
  have y8 : ¬ (9223372036854775807 < A5.size + TT.size) := by omega
  have y9 : ¬ (9223372036854775807 < A6.size + 1) := by omega
  have hA7z : A7.size ≤ 100000000 := by omega
  have HS := Lib.hid hA7z
  clear hx hss hl4 hlc hl18 hLz hPz hTz hTw hT2 hB2 hM2 hN hM hb0 k0 k1 hs0 hbT hbN hb hp hbk1 hin hol hX hBw hnq hblk hLLz hLL sJ1 s1 s2 s3 s4 s5 s6 s7 hA7z hi hlen hqT hk8 hk2 hL1 hlm h hJ0
  go_enter Tryz.func98, Tryz.ntmps98
  rw [hW0] at c0 c1 c2 c3 c4
  go_wp2_with fail
  rw [← HW.out.2, ← HW.out.1]
  clear c0 c1 c2 c3 c4 p0 hW0 hW1
  have e0 : W1.cell? ⟨w0.heap.size, 0, none⟩ = some (.slice (some ⟨b, off, none⟩) N cap) := blk_cell HK.out.2.1 0
  have d2 : W1.cell? ⟨w0.heap.size + 1, 2, none⟩ = some (.int .i64 (k : Nat)) := blk_cell HK.out.2.2.1 2
  have d3 : W1.cell? ⟨w0.heap.size + 1, 3, none⟩ = some (.string s) := blk_cell HK.out.2.2.1 3
  have d4 : W1.cell? ⟨w0.heap.size + 1, 4, none⟩ = some (.slice (some ⟨lb, lo, none⟩) M lc) := blk_cell HK.out.2.2.1 4
  refine wp_region_rv 8 GK (kindW []) (by kernel_rfl) (by kernel_rfl) (kb_trans _) (kb_refl _) (kb_start _ _) (kindW_mono _ (by intro p hp; cases hp)) ?_
  simp only [List.take_succ_cons, List.take_zero, List.drop_succ_cons, List.drop_zero]
  iterate 8 (refine rv_det (by kernel_rfl) rfl (by intro w hG hH; have hc0 := KB.cell hG (fun x => x) (d2); have hc1 := KB.cell hG (fun x => x) (d4); go_simp; first | done | with_reducible rfl) ?_; simp only [Act.put, List.setIfInBounds_toArray, List.set_cons_zero, List.set_cons_succ])
  refine rv_nil (fun w hG hH => ?_)
  have HG1 := Lib.hid hG
  have e0 := hG.cell (p := ⟨w0.heap.size, 0, none⟩) (fun x => x) e0
  have d3 := hG.cell (p := ⟨w0.heap.size + 1, 3, none⟩) (fun x => x) d3
  have d4 := hG.cell (p := ⟨w0.heap.size + 1, 4, none⟩) (fun x => x) d4
  have hmT := hG.cell (p := ⟨lb, lo + M2, none⟩) (fun x => x) hmT
  have hmB := hG.cell (p := ⟨lb, lo + L1, none⟩) (fun x => x) hmB
  have p1 := hG.cell (p := ⟨X, 0, none⟩) (fun x => x) p1
  have hkb := HK.out.2.2.2.2.2.trans hG
  have hk0 := HK.out.1.trans hG
  have hbTa := hG.heap (fun x => x) HK.out.2.1
  have HA := Lib.hid (And.intro hk0 (And.intro hkb hbTa))
  obtain ⟨Wa, rfl⟩ : ∃ Wa, Wa = w := ⟨_, rfl⟩
  clear hkb hk0 hbTa hG hH HG1 d2
  go_wp2_with fail
  refine wp_region_rv 8 GK (kindW [(6, (fun v => v = .string J), (fun _ _ => True))]) (by kernel_rfl) (by kernel_rfl) (kb_trans _) (kb_refl _) (kb_start _ _) (kindW_mono _ (by intro p hp; simp only [List.mem_cons, List.not_mem_nil, or_false] at hp; (subst hp; exact lasts_true))) ?_
  simp only [List.take_succ_cons, List.take_zero, List.drop_succ_cons, List.drop_zero]
  iterate 6 (refine rv_det (by kernel_rfl) rfl (by intro w hG hH; have hc0 := KB.cell hG (fun x => x) (e0); have hc1 := KB.cell hG (fun x => x) (d4); go_simp; first | done | with_reducible rfl) ?_; simp only [Act.put, List.setIfInBounds_toArray, List.set_cons_zero, List.set_cons_succ])
  refine rv_rel (by kernel_rfl) rfl ⟨_, rfl⟩ (by
    intro w hG hH
    refine opVal_call (by go_simp; first | done | exact ⟨⟨rfl, rfl⟩, rfl⟩) ?_
    refine (TL.out _ (HA.out.2.1.trans hG) w0.heap.size (hG.heap (fun x => x) HA.out.2.2)).mono ?_
    rintro e w' ⟨rfl, hq⟩
    exact ⟨_, rfl, rfl, by first | (obtain ⟨nq, rfl⟩ := hq; exact (KB.refl _ _).drewN _) | (subst hq; exact KB.refl _ _) | exact hq, trivial⟩) ?_
  rintro v rfl
  simp only [Act.put, List.setIfInBounds_toArray, List.set_cons_zero, List.set_cons_succ]
  refine rv_det (by kernel_rfl) rfl (by intro w hG hH; go_simp; first | done | with_reducible rfl) ?_
  simp only [Act.put, List.setIfInBounds_toArray, List.set_cons_zero, List.set_cons_succ]
  refine rv_nil (fun w hG hH => ?_)
  have e0 := hG.cell (p := ⟨w0.heap.size, 0, none⟩) (fun x => x) e0
  have d3 := hG.cell (p := ⟨w0.heap.size + 1, 3, none⟩) (fun x => x) d3
  have d4 := hG.cell (p := ⟨w0.heap.size + 1, 4, none⟩) (fun x => x) d4
  have hmT := hG.cell (p := ⟨lb, lo + M2, none⟩) (fun x => x) hmT
  have hmB := hG.cell (p := ⟨lb, lo + L1, none⟩) (fun x => x) hmB
  have p1 := hG.cell (p := ⟨X, 0, none⟩) (fun x => x) p1
  have HC := Lib.hid (And.intro (HA.out.1.trans hG) (HA.out.2.1.trans hG))
  obtain ⟨Wc, rfl⟩ : ∃ Wc, Wc = w := ⟨_, rfl⟩
  clear hG hH HA TL
  have hfin : ∀ (e : Ending) (w' : World), PgEnd Wc X (.slice (some ⟨b, off, none⟩) N cap) v (out ++ St5 ts qB inn (blB inn ++ A7)) inn e w' → PgEnd w0 X (.slice (some ⟨b, off, none⟩) N cap) v (out ++ St5 ts qB inn (blB inn ++ A7)) inn e w' := fun _ _ ⟨h1, v', h2, h3⟩ => ⟨h1, v', h2, (PgTo.of HC.out.1).trans h3⟩
  have HFIN := Lib.hid hfin
  clear hfin
  have hbg := (begins_line HK.out.2.2.2.2.1 HQ.out.1 HQ.out.2.1).kb HC.out.1
  have HBL := Lib.hid (fun (W : World) (hk : KB F0 Wc W) => BL.out W v out out inn (blB inn) A7 95 HQ.out.2.2.2.2 (HK.out.2.2.2.2.1.kb (HC.out.1.trans hk)) (HC.out.2.trans hk) HQ.out.2.2.1 HQ.out.2.2.2.1 HS.out (hbg.kb hk) enters_line)
  clear hbg BL
  by_cases hk0 : 0 < k
  · have t1 : decide (0 < k) = true := decide_eq_true hk0
    have hJ2 : J1 ++ ⟨#[62]⟩ = LL := by rw [HLL.out, if_pos hk0, hJ1]
    clear hk0 HJ0 HLL
    go_wp2_with fail
    refine wp_region_rv 36 GK (kindW [(16, (fun v => v = .string PP), (fun _ _ => True)), (26, (fun v => v = .string TT), (fun _ _ => True))]) (by kernel_rfl) (by kernel_rfl) (kb_trans _) (kb_refl _) (kb_start _ _) (kindW_mono _ (by intro p hp; simp only [List.mem_cons, List.not_mem_nil, or_false] at hp; (rcases hp with rfl | rfl <;> exact lasts_true))) ?_
    simp only [List.take_succ_cons, List.take_zero, List.drop_succ_cons, List.drop_zero]
    iterate 16 (refine rv_det (by kernel_rfl) rfl (by intro w hG hH; have hc0 := KB.cell hG (fun x => x) (e0); have hc1 := KB.cell hG (fun x => x) (d3); have hc2 := KB.cell hG (fun x => x) (d4); go_simp; first | done | with_reducible rfl) ?_; simp only [Act.put, List.setIfInBounds_toArray, List.set_cons_zero, List.set_cons_succ])
    refine rv_rel (by kernel_rfl) rfl ⟨_, rfl⟩ (by
      intro w hG hH
      refine opVal_call (by go_simp; first | done | exact ⟨⟨rfl, rfl⟩, rfl⟩) ?_
      refine (TP.out _ (HC.out.2.trans hG) (hG.cell (p := ⟨X, 0, none⟩) (fun x => x) p1)).mono ?_
      rintro e w' ⟨rfl, hq⟩
      exact ⟨_, rfl, rfl, by first | (obtain ⟨nq, rfl⟩ := hq; exact (KB.refl _ _).drewN _) | (subst hq; exact KB.refl _ _) | exact hq, trivial⟩) ?_
    rintro v rfl
    simp only [Act.put, List.setIfInBounds_toArray, List.set_cons_zero, List.set_cons_succ]
    iterate 9 (refine rv_det (by kernel_rfl) rfl (by intro w hG hH; have hc0 := KB.cell hG (fun x => x) (e0); have hc1 := KB.cell hG (fun x => x) (d4); have hc2 := KB.cell hG (fun x => x) (hmT); go_simp; first | done | with_reducible rfl) ?_; simp only [Act.put, List.setIfInBounds_toArray, List.set_cons_zero, List.set_cons_succ])
    refine rv_rel (by kernel_rfl) rfl ⟨_, rfl⟩ (by
      intro w hG hH
      refine opVal_call (by go_simp; first | done | exact ⟨⟨rfl, rfl⟩, rfl⟩) ?_
      refine (KA.out _ (HC.out.2.trans hG)).mono ?_
      rintro e w' ⟨rfl, hq⟩
      exact ⟨_, rfl, rfl, by first | (obtain ⟨nq, rfl⟩ := hq; exact (KB.refl _ _).drewN _) | (subst hq; exact KB.refl _ _) | exact hq, trivial⟩) ?_
    rintro v rfl
    simp only [Act.put, List.setIfInBounds_toArray, List.set_cons_zero, List.set_cons_succ]
    iterate 9 (refine rv_det (by kernel_rfl) rfl (by intro w hG hH; have hc0 := KB.cell hG (fun x => x) (d4); have hc1 := KB.cell hG (fun x => x) (hmB); go_simp; first | done | with_reducible rfl) ?_; simp only [Act.put, List.setIfInBounds_toArray, List.set_cons_zero, List.set_cons_succ])
    refine rv_nil (fun w hG hH => ?_)
    have hb2 := HBL.out w hG
    have HT := Lib.hid hG
    have HBL2 := Lib.hid hb2
    clear hb2 hG hH HBL e0 d3 d4 hmT hmB p1 TP KA
    go_wp2_with fail
    refine HBL2.out.mono ?_
    rintro e w5 ⟨rfl, v5, hp5, ht5⟩
    have H5 := Lib.hid (And.intro hp5 ((PgTo.of HT.out).trans ht5))
    clear hp5 ht5 HBL2 HT
    go_wp2_with fail
    go_end0
    exact HFIN.out _ _ ⟨rfl, v5, H5.out⟩
  · have t1 : decide (0 < k) = false := decide_eq_false hk0
    obtain rfl : LL = J := by rw [HLL.out, if_neg hk0, HJ0.out (by omega)]
    clear hk0 HJ0 HLL
    go_wp2_with fail
    refine wp_region_rv 36 GK (kindW [(16, (fun v => v = .string PP), (fun _ _ => True)), (26, (fun v => v = .string TT), (fun _ _ => True))]) (by kernel_rfl) (by kernel_rfl) (kb_trans _) (kb_refl _) (kb_start _ _) (kindW_mono _ (by intro p hp; simp only [List.mem_cons, List.not_mem_nil, or_false] at hp; (rcases hp with rfl | rfl <;> exact lasts_true))) ?_
    simp only [List.take_succ_cons, List.take_zero, List.drop_succ_cons, List.drop_zero]
    iterate 16 (refine rv_det (by kernel_rfl) rfl (by intro w hG hH; have hc0 := KB.cell hG (fun x => x) (e0); have hc1 := KB.cell hG (fun x => x) (d3); have hc2 := KB.cell hG (fun x => x) (d4); go_simp; first | done | with_reducible rfl) ?_; simp only [Act.put, List.setIfInBounds_toArray, List.set_cons_zero, List.set_cons_succ])
    refine rv_rel (by kernel_rfl) rfl ⟨_, rfl⟩ (by
      intro w hG hH
      refine opVal_call (by go_simp; first | done | exact ⟨⟨rfl, rfl⟩, rfl⟩) ?_
      refine (TP.out _ (HC.out.2.trans hG) (hG.cell (p := ⟨X, 0, none⟩) (fun x => x) p1)).mono ?_
      rintro e w' ⟨rfl, hq⟩
      exact ⟨_, rfl, rfl, by first | (obtain ⟨nq, rfl⟩ := hq; exact (KB.refl _ _).drewN _) | (subst hq; exact KB.refl _ _) | exact hq, trivial⟩) ?_
    rintro v rfl
    simp only [Act.put, List.setIfInBounds_toArray, List.set_cons_zero, List.set_cons_succ]
    iterate 9 (refine rv_det (by kernel_rfl) rfl (by intro w hG hH; have hc0 := KB.cell hG (fun x => x) (e0); have hc1 := KB.cell hG (fun x => x) (d4); have hc2 := KB.cell hG (fun x => x) (hmT); go_simp; first | done | with_reducible rfl) ?_; simp only [Act.put, List.setIfInBounds_toArray, List.set_cons_zero, List.set_cons_succ])
    refine rv_rel (by kernel_rfl) rfl ⟨_, rfl⟩ (by
      intro w hG hH
      refine opVal_call (by go_simp; first | done | exact ⟨⟨rfl, rfl⟩, rfl⟩) ?_
      refine (KA.out _ (HC.out.2.trans hG)).mono ?_
      rintro e w' ⟨rfl, hq⟩
      exact ⟨_, rfl, rfl, by first | (obtain ⟨nq, rfl⟩ := hq; exact (KB.refl _ _).drewN _) | (subst hq; exact KB.refl _ _) | exact hq, trivial⟩) ?_
    rintro v rfl
    simp only [Act.put, List.setIfInBounds_toArray, List.set_cons_zero, List.set_cons_succ]
    iterate 9 (refine rv_det (by kernel_rfl) rfl (by intro w hG hH; have hc0 := KB.cell hG (fun x => x) (d4); have hc1 := KB.cell hG (fun x => x) (hmB); go_simp; first | done | with_reducible rfl) ?_; simp only [Act.put, List.setIfInBounds_toArray, List.set_cons_zero, List.set_cons_succ])
    refine rv_nil (fun w hG hH => ?_)
    have hb2 := HBL.out w hG
    have HT := Lib.hid hG
    have HBL2 := Lib.hid hb2
    clear hb2 hG hH HBL e0 d3 d4 hmT hmB p1 TP KA
    go_wp2_with fail
    refine HBL2.out.mono ?_
    rintro e w5 ⟨rfl, v5, hp5, ht5⟩
    have H5 := Lib.hid (And.intro hp5 ((PgTo.of HT.out).trans ht5))
    clear hp5 ht5 HBL2 HT
    go_wp2_with fail
    go_end0
    exact HFIN.out _ _ ⟨rfl, v5, H5.out⟩
end Go.Proofs.YtoophdcagpfmpaaGreatDoor

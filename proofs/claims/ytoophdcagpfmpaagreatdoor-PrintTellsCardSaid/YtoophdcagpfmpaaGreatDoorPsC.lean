/- loanwordref05: fields, lives. -/
import Derived.Test.YtoophdcagpfmpaaGreatDoorPsB
namespace Go.Proofs.YtoophdcagpfmpaaGreatDoor
open Go.RowKit

/-- A node where it lies, with its list. -/
structure NdIn (w : World) (b off N p : Nat) (k2 : Nat) (a2 n2 : Int) (s2 : ByteArray) (la2 : Option Addr) (M2 lc2 : Nat) : Prop where
  lt : p < N
  c0 : w.cell? ⟨b, off + p * 5, none⟩ = some (.int .u8 (k2 : Nat))
  c1 : w.cell? ⟨b, off + p * 5 + 1, none⟩ = some (.int .i64 a2)
  c2 : w.cell? ⟨b, off + p * 5 + 2, none⟩ = some (.int .i64 n2)
  c3 : w.cell? ⟨b, off + p * 5 + 3, none⟩ = some (.string s2)
  c4 : w.cell? ⟨b, off + p * 5 + 4, none⟩ = some (.slice la2 M2 lc2)
theorem NdIn.kb {w w' : World} {b off N p k2 : Nat} {a2 n2 : Int} {s2 : ByteArray} {la2 : Option Addr} {M2 lc2 : Nat} (h : NdIn w b off N p k2 a2 n2 s2 la2 M2 lc2) (hk : KB F0 w w') : NdIn w' b off N p k2 a2 n2 s2 la2 M2 lc2 :=
  ⟨h.lt, hk.cell (p := ⟨b, _, none⟩) (fun x => x) h.c0, hk.cell (p := ⟨b, _, none⟩) (fun x => x) h.c1, hk.cell (p := ⟨b, _, none⟩) (fun x => x) h.c2, hk.cell (p := ⟨b, _, none⟩) (fun x => x) h.c3, hk.cell (p := ⟨b, _, none⟩) (fun x => x) h.c4⟩
theorem NdIn.of {w : World} {b off : Nat} {ts : List Nd} (hts : NodesAt w (some ⟨b, off, none⟩) ts) {p : Nat} (hp : p < ts.length) : ∃ la lc, NdIn w b off ts.length p (ts.getD p nd0).k (ts.getD p nd0).at_ (ts.getD p nd0).n (ts.getD p nd0).s la (ts.getD p nd0).l.length lc ∧ IntsAt w la (ts.getD p nd0).l ∧ lc ≤ maxLen ∧ (ts.getD p nd0).l.length ≤ lc := by
  obtain ⟨b2, off2, e, hx⟩ := hts p hp
  simp only [Option.some.injEq, Addr.mk.injEq, and_true] at e
  obtain ⟨rfl, rfl⟩ := e
  obtain ⟨la, lc, hl4, hints, hlc, hlm⟩ := hx.l
  exact ⟨la, lc, ⟨hp, hx.k, hx.at_, hx.n, hx.s, hl4⟩, hints, hlm, hlc⟩

set_option maxRecDepth 100000 in
set_option maxHeartbeats 8000000 in
theorem rfields_any (b off N cap : Nat) (la : Option Addr) (M lc : Nat) (cs : Nat → Int) (g : Nat → ByteArray) (w : World) (hM : M ≤ 20000) (hN : N ≤ 20000)
    (hcs : ∀ i, i < M → ∃ lb lo p q k2 la2 lo2 lc2 : Nat, ∃ (a2 n2 : Int) (s2 C : ByteArray), la = some ⟨lb, lo, none⟩ ∧ w.cell? ⟨lb, lo + i, none⟩ = some (.int .i64 (p : Nat)) ∧ NdIn w b off N p k2 a2 n2 s2 (some ⟨la2, lo2, none⟩) 1 lc2 ∧ w.cell? ⟨la2, lo2, none⟩ = some (.int .i64 q) ∧ s2.size ≤ 32 ∧ C.size ≤ 4000000 ∧ g i = s2 ++ ⟨#[58, 32]⟩ ++ C ∧
      ∀ W, KB F0 w W → TxtCall 49 #[.agg #[.slice (some ⟨b, off, none⟩) N cap], .int .i64 q] W C) (hs : (jnK ⟨#[44, 32]⟩ g M).size ≤ 100000000000) :
    TxtCall 77 #[.agg #[.slice (some ⟨b, off, none⟩) N cap], .slice la M lc] w (jnK ⟨#[44, 32]⟩ g M) := by
  obtain ⟨w0, rfl⟩ : ∃ w0, w0 = w := ⟨_, rfl⟩
  obtain ⟨W1, hW1⟩ : ∃ W1, W1 = w0.alloc (.cells #[.slice (some ⟨b, off, none⟩) N cap] 24) := ⟨_, rfl⟩
  have k1 : KB F0 w0 W1 := by rw [hW1]; exact (KB.refl _ _).alloc _
  have hb1 : W1.heap[w0.heap.size]? = some (.cells #[.slice (some ⟨b, off, none⟩) N cap] 24 (0, 0)) := by rw [hW1]; exact alloc_new _ _
  have HCS := Lib.hid hcs
  have HB := Lib.hid (And.intro k1 hb1)
  have HW := Lib.hid hW1
  have HZ : Hid (∀ k, k ≤ M → (jnK ⟨#[44, 32]⟩ g k).size ≤ 100000000000) := Lib.hid (fun k hk => Nat.le_trans (jnK_le hk) hs)
  have H0 : Hid (KB F0 W1 W1) := Lib.hid (KB.refl _ _)
  clear hcs hs k1 hb1 hW1
  unfold TxtCall
  go_enter Tryz.func77, Tryz.ntmps77
  go_wp2_with fail
  rw [← HW.out]
  go_loopw [5, 6] (fun sv kv wr => ∃ k : Nat, k ≤ M ∧ sv = .string (jnK ⟨#[44, 32]⟩ g k) ∧ kv = .int .i64 (k : Nat) ∧ Hid (KB F0 W1 wr)) (fun _ kv _ => M - (intOf kv).toNat)
  case atStart => exact ⟨0, by omega, rfl, rfl, H0⟩
  case round =>
    obtain ⟨k, hk, rfl, rfl, hst⟩ := hrel
    clear H0
    by_cases hlt : k < M
    · have hkM : (k : Int) < (M : Int) := by omega
      obtain ⟨lb, lo, p, q, k2, la2, lo2, lc2, a2, n2, s2, G, rfl, hcc, hnd, g1, hs2, hGz, hgi, hcall⟩ := HCS.out k hlt
      have hkk := HB.out.1.trans hst.out
      have hcc := hkk.cell (p := ⟨lb, lo + k, none⟩) (fun x => x) hcc
      have hnd := hnd.kb hkk
      have f0 := hnd.c0
      have f1 := hnd.c1
      have f2 := hnd.c2
      have f3 := hnd.c3
      have f4 := hnd.c4
      have hpN := hnd.lt
      have g1 := hkk.cell (p := ⟨la2, lo2, none⟩) (fun x => x) g1
      have e0 : wr.cell? ⟨w0.heap.size, 0, none⟩ = some (.slice (some ⟨b, off, none⟩) N cap) := blk_cell (hst.out.heap (fun x => x) HB.out.2) 0
      have lt1 : w0.heap.size < wr.heap.size := heap_ltc e0
      have lt3 : b < wr.heap.size := heap_ltc f0
      have lt4 : lb < wr.heap.size := heap_ltc hcc
      have hpi : (p : Int) < (N : Int) := by omega
      have C1 := Lib.hid hcall
      unfold TxtCall at C1
      have hz1 := HZ.out (k + 1) (by omega)
      have hj0 : k = 0 → jnK ⟨#[44, 32]⟩ g (k + 1) = jnK ⟨#[44, 32]⟩ g k ++ g k := fun e => by subst e; exact (empty_app _).symm
      have hj1 : k ≠ 0 → jnK ⟨#[44, 32]⟩ g (k + 1) = jnK ⟨#[44, 32]⟩ g k ++ ⟨#[44, 32]⟩ ++ g k := fun e => jn_next e
      rw [hgi] at hj0 hj1
      obtain ⟨S, hS⟩ : ∃ S, S = jnK ⟨#[44, 32]⟩ g k := ⟨_, rfl⟩
      obtain ⟨S2, hS2⟩ : ∃ S, S = jnK ⟨#[44, 32]⟩ g (k + 1) := ⟨_, rfl⟩
      have HS2 := Lib.hid hS2
      rw [← hS, ← hS2] at hj0 hj1
      rw [← hS2] at hz1
      rw [← hS]
      clear hS hS2 hgi hcall hkk hnd hpN
      by_cases h0 : k = 0
      · have hE1 := hj0 h0
        have t1 : decide (0 < k) = false := decide_eq_false (by omega)
        obtain ⟨B1, hB1⟩ : ∃ Z_ : ByteArray, S ++ s2 = Z_ := ⟨_, rfl⟩
        obtain ⟨B2, hB2⟩ : ∃ Z_ : ByteArray, B1 ++ ⟨#[58, 32]⟩ = Z_ := ⟨_, rfl⟩
        have hE : B2 ++ G = S2 := by rw [hE1, ← hB2, ← hB1]; simp only [ByteArray.append_assoc]
        have sB1 : B1.size = S.size + s2.size := by rw [← hB1, ByteArray.size_append]
        have sB2 : B2.size = B1.size + 2 := by rw [← hB2, ByteArray.size_append]; rfl
        have sE : S2.size = B2.size + G.size := by rw [← hE, ByteArray.size_append]
        have z2 : ¬ (9223372036854775807 < S.size + s2.size) := by omega
        have z3 : ¬ (9223372036854775807 < B1.size + 2) := by omega
        have z4 : ¬ (9223372036854775807 < B2.size + G.size) := by omega
        clear hj0 hj1 h0 hE1 sB1 sB2 sE hz1 hs2 hGz
        go_wp2_with fail
        refine shareP (G := ?G) ?cont ?main
        case main =>
          intro key
          go_region
          obtain ⟨Wz, hWz⟩ : ∃ Wz, Wz = (wr.alloc (.cells #[.int .u8 (k2 : Nat), .int .i64 a2, .int .i64 n2, .string s2, .slice (some ⟨la2, lo2, none⟩) 1 lc2] 44)).drew := ⟨_, rfl⟩
          rw [← hWz]
          have kz : KB F0 wr Wz := by rw [hWz]; exact ((KB.refl _ _).alloc _).drew
          have hY : Wz.heap[wr.heap.size]? = some (.cells #[.int .u8 (k2 : Nat), .int .i64 a2, .int .i64 n2, .string s2, .slice (some ⟨la2, lo2, none⟩) 1 lc2] 44 (0, 0)) := by
            rw [hWz]; exact (alloc_new wr _)
          clear hWz
          revert hY
          revert kz
          revert Wz
          exact key
        case cont =>
          intro Wz kz hY
          have y3 : Wz.cell? ⟨wr.heap.size, 3, none⟩ = some (.string s2) := blk_cell hY 3
          have y4 : Wz.cell? ⟨wr.heap.size, 4, none⟩ = some (.slice (some ⟨la2, lo2, none⟩) 1 lc2) := blk_cell hY 4
          have e0 := kz.cell (p := ⟨w0.heap.size, 0, none⟩) (fun x => x) e0
          have g1 := kz.cell (p := ⟨la2, lo2, none⟩) (fun x => x) g1
          have KZ := Lib.hid (hst.out.trans kz)
          clear kz hY f0 f1 f2 f3 f4 hcc lt1 lt3 lt4
          go_wp2_with fail
          refine wp_region_rv 13 GK (kindW [(10, (fun v => v = .string G), (fun _ _ => True))]) (by kernel_rfl) (by kernel_rfl) (kb_trans _) (kb_refl _) (kb_start _ _) (kindW_mono _ (by intro p hp; simp only [List.mem_cons, List.not_mem_nil, or_false] at hp; (subst hp; exact lasts_true))) ?_
          simp only [List.take_succ_cons, List.take_zero, List.drop_succ_cons, List.drop_zero]
          iterate 10 (refine rv_det (by kernel_rfl) rfl (by intro w hG hH; have hc0 := KB.cell hG (fun x => x) (y3); have hc1 := KB.cell hG (fun x => x) (y4); have hc2 := KB.cell hG (fun x => x) (e0); have hc3 := KB.cell hG (fun x => x) (g1); go_simp; first | done | with_reducible rfl) ?_; simp only [Act.put, List.setIfInBounds_toArray, List.set_cons_zero, List.set_cons_succ])
          refine rv_rel (by kernel_rfl) rfl ⟨_, rfl⟩ (by
            intro w hG hH
            refine opVal_call (by go_simp; first | done | exact ⟨⟨rfl, rfl⟩, rfl⟩) ?_
            refine (C1.out _ ((HB.out.1.trans KZ.out).trans hG)).mono ?_
            rintro e w' ⟨rfl, hq⟩
            exact ⟨_, rfl, rfl, by first | (obtain ⟨nq, rfl⟩ := hq; exact (KB.refl _ _).drewN _) | (subst hq; exact KB.refl _ _) | exact hq, trivial⟩) ?_
          rintro v rfl
          simp only [Act.put, List.setIfInBounds_toArray, List.set_cons_zero, List.set_cons_succ]
          iterate 2 (refine rv_det (by kernel_rfl) rfl (by intro w hG hH; go_simp; first | done | with_reducible rfl) ?_; simp only [Act.put, List.setIfInBounds_toArray, List.set_cons_zero, List.set_cons_succ])
          refine rv_nil (fun w hG hH => ?_)
          have H1 : Hid (KB F0 W1 w) := Lib.hid (KZ.out.trans hG)
          clear hG hH e0 y3 y4 g1 KZ
          go_wp2_with fail
          go_roundw
          case rel => exact ⟨k + 1, by omega, by rw [← HS2.out], by go_num, H1⟩
          case measure => simp [intOf]; omega
      · have hE1 := hj1 h0
        have t1 : decide (0 < k) = true := decide_eq_true (by omega)
        obtain ⟨B0, hB0⟩ : ∃ Z_ : ByteArray, S ++ ⟨#[44, 32]⟩ = Z_ := ⟨_, rfl⟩
        obtain ⟨B1, hB1⟩ : ∃ Z_ : ByteArray, B0 ++ s2 = Z_ := ⟨_, rfl⟩
        obtain ⟨B2, hB2⟩ : ∃ Z_ : ByteArray, B1 ++ ⟨#[58, 32]⟩ = Z_ := ⟨_, rfl⟩
        have hE : B2 ++ G = S2 := by rw [hE1, ← hB2, ← hB1, ← hB0]; simp only [ByteArray.append_assoc]
        have sB0 : B0.size = S.size + 2 := by rw [← hB0, ByteArray.size_append]; rfl
        have sB1 : B1.size = B0.size + s2.size := by rw [← hB1, ByteArray.size_append]
        have sB2 : B2.size = B1.size + 2 := by rw [← hB2, ByteArray.size_append]; rfl
        have sE : S2.size = B2.size + G.size := by rw [← hE, ByteArray.size_append]
        have z1 : ¬ (9223372036854775807 < S.size + 2) := by omega
        have z2 : ¬ (9223372036854775807 < B0.size + s2.size) := by omega
        have z3 : ¬ (9223372036854775807 < B1.size + 2) := by omega
        have z4 : ¬ (9223372036854775807 < B2.size + G.size) := by omega
        clear hj0 hj1 h0 hE1 sB0 sB1 sB2 sE hz1 hs2 hGz
        go_wp2_with fail
        refine shareP (G := ?G2) ?cont2 ?main2
        case main2 =>
          intro key
          go_region
          obtain ⟨Wz, hWz⟩ : ∃ Wz, Wz = (wr.alloc (.cells #[.int .u8 (k2 : Nat), .int .i64 a2, .int .i64 n2, .string s2, .slice (some ⟨la2, lo2, none⟩) 1 lc2] 44)).drew := ⟨_, rfl⟩
          rw [← hWz]
          have kz : KB F0 wr Wz := by rw [hWz]; exact ((KB.refl _ _).alloc _).drew
          have hY : Wz.heap[wr.heap.size]? = some (.cells #[.int .u8 (k2 : Nat), .int .i64 a2, .int .i64 n2, .string s2, .slice (some ⟨la2, lo2, none⟩) 1 lc2] 44 (0, 0)) := by
            rw [hWz]; exact (alloc_new wr _)
          clear hWz
          revert hY
          revert kz
          revert Wz
          exact key
        case cont2 =>
          intro Wz kz hY
          have y3 : Wz.cell? ⟨wr.heap.size, 3, none⟩ = some (.string s2) := blk_cell hY 3
          have y4 : Wz.cell? ⟨wr.heap.size, 4, none⟩ = some (.slice (some ⟨la2, lo2, none⟩) 1 lc2) := blk_cell hY 4
          have e0 := kz.cell (p := ⟨w0.heap.size, 0, none⟩) (fun x => x) e0
          have g1 := kz.cell (p := ⟨la2, lo2, none⟩) (fun x => x) g1
          have KZ := Lib.hid (hst.out.trans kz)
          clear kz hY f0 f1 f2 f3 f4 hcc lt1 lt3 lt4
          go_wp2_with fail
          refine wp_region_rv 13 GK (kindW [(10, (fun v => v = .string G), (fun _ _ => True))]) (by kernel_rfl) (by kernel_rfl) (kb_trans _) (kb_refl _) (kb_start _ _) (kindW_mono _ (by intro p hp; simp only [List.mem_cons, List.not_mem_nil, or_false] at hp; (subst hp; exact lasts_true))) ?_
          simp only [List.take_succ_cons, List.take_zero, List.drop_succ_cons, List.drop_zero]
          iterate 10 (refine rv_det (by kernel_rfl) rfl (by intro w hG hH; have hc0 := KB.cell hG (fun x => x) (y3); have hc1 := KB.cell hG (fun x => x) (y4); have hc2 := KB.cell hG (fun x => x) (e0); have hc3 := KB.cell hG (fun x => x) (g1); go_simp; first | done | with_reducible rfl) ?_; simp only [Act.put, List.setIfInBounds_toArray, List.set_cons_zero, List.set_cons_succ])
          refine rv_rel (by kernel_rfl) rfl ⟨_, rfl⟩ (by
            intro w hG hH
            refine opVal_call (by go_simp; first | done | exact ⟨⟨rfl, rfl⟩, rfl⟩) ?_
            refine (C1.out _ ((HB.out.1.trans KZ.out).trans hG)).mono ?_
            rintro e w' ⟨rfl, hq⟩
            exact ⟨_, rfl, rfl, by first | (obtain ⟨nq, rfl⟩ := hq; exact (KB.refl _ _).drewN _) | (subst hq; exact KB.refl _ _) | exact hq, trivial⟩) ?_
          rintro v rfl
          simp only [Act.put, List.setIfInBounds_toArray, List.set_cons_zero, List.set_cons_succ]
          iterate 2 (refine rv_det (by kernel_rfl) rfl (by intro w hG hH; go_simp; first | done | with_reducible rfl) ?_; simp only [Act.put, List.setIfInBounds_toArray, List.set_cons_zero, List.set_cons_succ])
          refine rv_nil (fun w hG hH => ?_)
          have H1 : Hid (KB F0 W1 w) := Lib.hid (KZ.out.trans hG)
          clear hG hH e0 y3 y4 g1 KZ
          go_wp2_with fail
          go_roundw
          case rel => exact ⟨k + 1, by omega, by rw [← HS2.out], by go_num, H1⟩
          case measure => simp [intOf]; omega
    · obtain rfl : k = M := by omega
      go_wp2_with fail
      go_ret
      exact ⟨rfl, HB.out.1.trans hst.out⟩
/-- What stands behind a lifetime's name, so far. -/
def tlK (nm : Nat → ByteArray) : Nat → ByteArray
  | 0 => ByteArray.empty
  | k + 1 => if k = 0 then ⟨#[58, 32, 39]⟩ ++ nm 0 else tlK nm k ++ ⟨#[32, 43, 32, 39]⟩ ++ nm k
theorem tlK_jn (nm : Nat → ByteArray) : ∀ k, tlK nm (k + 1) = ⟨#[58, 32]⟩ ++ jnK ⟨#[32, 43, 32]⟩ (fun j => ⟨#[39]⟩ ++ nm j) (k + 1) := by
  intro k
  induction k with
  | zero =>
    show ⟨#[58, 32, 39]⟩ ++ nm 0 = ⟨#[58, 32]⟩ ++ (⟨#[39]⟩ ++ nm 0)
    rw [← ByteArray.append_assoc]; rfl
  | succ k ih =>
    rw [show tlK nm (k + 1 + 1) = tlK nm (k + 1) ++ ⟨#[32, 43, 32, 39]⟩ ++ nm (k + 1) from if_neg (by omega), ih, jn_next (show k + 1 ≠ 0 by omega), show (⟨#[32, 43, 32, 39]⟩ : ByteArray) = ⟨#[32, 43, 32]⟩ ++ ⟨#[39]⟩ from rfl]
    simp only [ByteArray.append_assoc]
theorem tlK_life (nm : Nat → ByteArray) (A : ByteArray) (M : Nat) : A ++ tlK nm M = if 0 < M then A ++ (⟨#[58, 32]⟩ ++ jnK ⟨#[32, 43, 32]⟩ (fun j => ⟨#[39]⟩ ++ nm j) M) else A := by
  cases M with
  | zero => exact ByteArray.append_empty
  | succ M => rw [if_pos (by omega), tlK_jn]
theorem tlK_le {nm : Nat → ByteArray} {k m : Nat} (h : k ≤ m) : (tlK nm k).size ≤ (tlK nm m).size := by
  induction m with
  | zero => have : k = 0 := by omega
            subst this; exact Nat.le_refl _
  | succ m ih =>
    rcases Nat.lt_or_eq_of_le h with h | rfl
    · have h1 := ih (by omega)
      have h2 : (tlK nm m).size ≤ (tlK nm (m + 1)).size := by
        by_cases h0 : m = 0
        · subst h0; exact Nat.zero_le _
        · rw [show tlK nm (m + 1) = tlK nm m ++ ⟨#[32, 43, 32, 39]⟩ ++ nm m from if_neg h0, ByteArray.size_append, ByteArray.size_append]; omega
      omega
    · exact Nat.le_refl _
set_option maxRecDepth 100000 in
set_option maxHeartbeats 16000000 in
theorem rlives_any (b off N cap : Nat) (la : Option Addr) (M lc : Nat) (g : Nat → ByteArray) (w : World) (hM : M ≤ 20000) (hN : N ≤ 20000)
    (hcs : ∀ i, i < M → ∃ lb lo p k2 : Nat, ∃ (la2 : Option Addr) (M2 lc2 : Nat) (a2 n2 : Int) (s2 : ByteArray) (nm : Nat → ByteArray), la = some ⟨lb, lo, none⟩ ∧ w.cell? ⟨lb, lo + i, none⟩ = some (.int .i64 (p : Nat)) ∧ NdIn w b off N p k2 a2 n2 s2 la2 M2 lc2 ∧ M2 ≤ 8 ∧ s2.size ≤ 32 ∧ g i = ⟨#[39]⟩ ++ s2 ++ tlK nm M2 ∧
      ∀ j, j < M2 → ∃ lb2 lo2 q : Nat, la2 = some ⟨lb2, lo2, none⟩ ∧ w.cell? ⟨lb2, lo2 + j, none⟩ = some (.int .i64 (q : Nat)) ∧ q < N ∧ w.cell? ⟨b, off + q * 5 + 3, none⟩ = some (.string (nm j)) ∧ (nm j).size ≤ 32) (hs : (jnK ⟨#[44, 32]⟩ g M).size ≤ 100000000000) :
    TxtCall 78 #[.agg #[.slice (some ⟨b, off, none⟩) N cap], .slice la M lc] w (if (jnK ⟨#[44, 32]⟩ g M).size = 0 then ByteArray.empty else ⟨#[60]⟩ ++ jnK ⟨#[44, 32]⟩ g M ++ ⟨#[62]⟩) := by
  obtain ⟨w0, rfl⟩ : ∃ w0, w0 = w := ⟨_, rfl⟩
  obtain ⟨W1, hW1⟩ : ∃ W1, W1 = w0.alloc (.cells #[.slice (some ⟨b, off, none⟩) N cap] 24) := ⟨_, rfl⟩
  have k1 : KB F0 w0 W1 := by rw [hW1]; exact (KB.refl _ _).alloc _
  have hb1 : W1.heap[w0.heap.size]? = some (.cells #[.slice (some ⟨b, off, none⟩) N cap] 24 (0, 0)) := by rw [hW1]; exact alloc_new _ _
  obtain ⟨r, hr⟩ : ∃ r, r = if (jnK ⟨#[44, 32]⟩ g M).size = 0 then ByteArray.empty else ⟨#[60]⟩ ++ jnK ⟨#[44, 32]⟩ g M ++ ⟨#[62]⟩ := ⟨_, rfl⟩
  rw [← hr]
  have HR := Lib.hid hr
  have HCS := Lib.hid hcs
  have HB := Lib.hid (And.intro k1 hb1)
  have HW := Lib.hid hW1
  have HZ : Hid (∀ k, k ≤ M → (jnK ⟨#[44, 32]⟩ g k).size ≤ 100000000000) := Lib.hid (fun k hk => Nat.le_trans (jnK_le hk) hs)
  have H0 : Hid (KB F0 W1 W1) := Lib.hid (KB.refl _ _)
  clear hcs hs k1 hb1 hW1 hr
  unfold TxtCall
  go_enter Tryz.func78, Tryz.ntmps78
  go_wp2_with fail
  rw [← HW.out]
  go_loopw [5, 6] (fun sv kv wr => ∃ k : Nat, k ≤ M ∧ sv = .string (jnK ⟨#[44, 32]⟩ g k) ∧ kv = .int .i64 (k : Nat) ∧ Hid (KB F0 W1 wr)) (fun _ kv _ => M - (intOf kv).toNat)
  case atStart => exact ⟨0, by omega, rfl, rfl, H0⟩
  case round =>
    obtain ⟨k, hk, rfl, rfl, hst⟩ := hrel
    clear H0
    by_cases hlt : k < M
    · have hkM : (k : Int) < (M : Int) := by omega
      obtain ⟨lb, lo, p, k2, la2, M2, lc2, a2, n2, s2, nm, rfl, hcc, hnd, hM28, hs2, hgi, hin⟩ := HCS.out k hlt
      have hkk := HB.out.1.trans hst.out
      have hcc := hkk.cell (p := ⟨lb, lo + k, none⟩) (fun x => x) hcc
      have hnd := hnd.kb hkk
      have f0 := hnd.c0
      have f1 := hnd.c1
      have f2 := hnd.c2
      have f3 := hnd.c3
      have f4 := hnd.c4
      have hpN := hnd.lt
      have e0 : wr.cell? ⟨w0.heap.size, 0, none⟩ = some (.slice (some ⟨b, off, none⟩) N cap) := blk_cell (hst.out.heap (fun x => x) HB.out.2) 0
      have lt1 : w0.heap.size < wr.heap.size := heap_ltc e0
      have lt3 : b < wr.heap.size := heap_ltc f0
      have lt4 : lb < wr.heap.size := heap_ltc hcc
      have hpi : (p : Int) < (N : Int) := by omega
      have HIN := Lib.hid hin
      have hz1 := HZ.out (k + 1) (by omega)
      have hj0 : k = 0 → jnK ⟨#[44, 32]⟩ g (k + 1) = jnK ⟨#[44, 32]⟩ g k ++ g k := fun e => by subst e; exact (empty_app _).symm
      have hj1 : k ≠ 0 → jnK ⟨#[44, 32]⟩ g (k + 1) = jnK ⟨#[44, 32]⟩ g k ++ ⟨#[44, 32]⟩ ++ g k := fun e => jn_next e
      rw [hgi] at hj0 hj1
      obtain ⟨S, hS⟩ : ∃ S, S = jnK ⟨#[44, 32]⟩ g k := ⟨_, rfl⟩
      obtain ⟨S2, hS2⟩ : ∃ S, S = jnK ⟨#[44, 32]⟩ g (k + 1) := ⟨_, rfl⟩
      have HS2 := Lib.hid hS2
      rw [← hS, ← hS2] at hj0 hj1
      rw [← hS2] at hz1
      rw [← hS]
      clear hS hS2 hgi hin hkk hnd hpN
      by_cases h0 : k = 0
      · have hE1 := hj0 h0
        have t1 : decide (0 < k) = false := decide_eq_false (by omega)
        obtain ⟨B1, hB1⟩ : ∃ Z_ : ByteArray, S ++ ⟨#[39]⟩ = Z_ := ⟨_, rfl⟩
        obtain ⟨B, hB⟩ : ∃ Z_ : ByteArray, B1 ++ s2 = Z_ := ⟨_, rfl⟩
        have HSE : Hid (B ++ tlK nm M2 = S2) := Lib.hid (by rw [hE1, ← hB, ← hB1]; simp only [ByteArray.append_assoc])
        have sB1 : B1.size = S.size + 1 := by rw [← hB1, ByteArray.size_append]; rfl
        have sB : B.size = B1.size + s2.size := by rw [← hB, ByteArray.size_append]
        have sE : S2.size = B.size + (tlK nm M2).size := by rw [← HSE.out, ByteArray.size_append]
        have HBZ : Hid (∀ j, j ≤ M2 → (B ++ tlK nm j).size ≤ 100000000000) := Lib.hid (fun j hj => by
          have := tlK_le (nm := nm) hj
          rw [ByteArray.size_append]; omega)
        have z2 : ¬ (9223372036854775807 < S.size + 1) := by omega
        have z3 : ¬ (9223372036854775807 < B1.size + s2.size) := by omega
        clear hj0 hj1 h0 hE1 sB1 sB sE hz1 hs2
        go_wp2_with fail
        refine shareP (G := ?G) ?cont ?main
        case main =>
          intro key
          go_region
          obtain ⟨Wz, hWz⟩ : ∃ Wz, Wz = (wr.alloc (.cells #[.int .u8 (k2 : Nat), .int .i64 a2, .int .i64 n2, .string s2, .slice la2 M2 lc2] 44)).drew := ⟨_, rfl⟩
          rw [← hWz]
          have kz : KB F0 wr Wz := by rw [hWz]; exact ((KB.refl _ _).alloc _).drew
          have hY : Wz.heap[wr.heap.size]? = some (.cells #[.int .u8 (k2 : Nat), .int .i64 a2, .int .i64 n2, .string s2, .slice la2 M2 lc2] 44 (0, 0)) := by
            rw [hWz]; exact (alloc_new wr _)
          clear hWz
          revert hY
          revert kz
          revert Wz
          exact key
        case cont =>
          intro Wz kz hY
          have y3 : Wz.cell? ⟨wr.heap.size, 3, none⟩ = some (.string s2) := blk_cell hY 3
          have KZ := Lib.hid (And.intro (hst.out.trans kz) hY)
          clear kz hY f0 f1 f2 f3 f4 hcc lt1 lt3 lt4 e0
          go_wp2_with fail
          clear y3
          obtain ⟨Xn, hXn⟩ : ∃ Xn, Xn = wr.heap.size := ⟨_, rfl⟩
          rw [← hXn] at KZ ⊢
          clear hXn hst
          have KZ1 := Lib.hid KZ.out.1
          have HI0 : Hid (KB F0 Wz Wz) := Lib.hid (KB.refl _ _)
          obtain ⟨wo, hwo⟩ : ∃ wo : World, wo = Wz := ⟨_, rfl⟩
          have HWO := Lib.hid hwo
          have HI1 : Hid (KB F0 wo Wz) := Lib.hid (by rw [hwo]; exact KB.refl _ _)
          clear hwo HI0
          go_loopw [5, 8] (fun sv kv ws => ∃ j : Nat, j ≤ M2 ∧ sv = .string (B ++ tlK nm j) ∧ kv = .int .i64 (j : Nat) ∧ Hid (KB F0 wo ws)) (fun _ kv _ => M2 - (intOf kv).toNat)
          case atStart => exact ⟨0, by omega, by rw [show tlK nm 0 = ByteArray.empty from rfl, ByteArray.append_empty], rfl, HI1⟩
          case round =>
            obtain ⟨ws, rfl⟩ : ∃ ws : World, ws = wr := ⟨_, rfl⟩
            obtain ⟨j, hj, rfl, rfl, hsi⟩ := hrel
            have hkw : KB F0 Wz ws := by rw [← HWO.out]; exact hsi.out
            have y4 : ws.cell? ⟨Xn, 4, none⟩ = some (.slice la2 M2 lc2) := blk_cell (hkw.heap (fun x => x) KZ.out.2) 4
            have HKW := Lib.hid hkw
            clear hkw
            by_cases hjl : j < M2
            · have hji : (j : Int) < (M2 : Int) := by omega
              obtain ⟨lb2, lo2, q, rfl, hq1, hqN, hq3, hnz⟩ := HIN.out j hjl
              have hkw2 := (HB.out.1.trans KZ.out.1).trans HKW.out
              have hq1 := hkw2.cell (p := ⟨lb2, lo2 + j, none⟩) (fun x => x) hq1
              have hq3 := hkw2.cell (p := ⟨b, off + q * 5 + 3, none⟩) (fun x => x) hq3
              have e0 : ws.cell? ⟨w0.heap.size, 0, none⟩ = some (.slice (some ⟨b, off, none⟩) N cap) := blk_cell ((KZ.out.1.trans HKW.out).heap (fun x => x) HB.out.2) 0
              have hqi : (q : Int) < (N : Int) := by omega
              have hbz := HBZ.out (j + 1) (by omega)
              have ht0 : j = 0 → B ++ tlK nm (j + 1) = B ++ tlK nm j ++ ⟨#[58, 32, 39]⟩ ++ nm j := fun e => by
                subst e
                rw [show tlK nm 0 = ByteArray.empty from rfl, ByteArray.append_empty]
                show B ++ (_ ++ _) = _
                rw [ByteArray.append_assoc]
              have ht1 : j ≠ 0 → B ++ tlK nm (j + 1) = B ++ tlK nm j ++ ⟨#[32, 43, 32, 39]⟩ ++ nm j := fun e => by
                rw [show tlK nm (j + 1) = tlK nm j ++ ⟨#[32, 43, 32, 39]⟩ ++ nm j from if_neg e]
                simp only [ByteArray.append_assoc]
              obtain ⟨U, hU⟩ : ∃ U, U = B ++ tlK nm j := ⟨_, rfl⟩
              obtain ⟨U2, hU2⟩ : ∃ U, U = B ++ tlK nm (j + 1) := ⟨_, rfl⟩
              have HU2 := Lib.hid hU2
              rw [← hU, ← hU2] at ht0 ht1
              rw [← hU2] at hbz
              rw [← hU]
              generalize nm j = s3 at hq3 hnz ht0 ht1
              clear hU hU2 hkw2 hqN
              by_cases hj0 : j = 0
              · have hE1 := ht0 hj0
                have t2 : ((j : Int) == 0) = true := by simp; omega
                obtain ⟨V1, hV1⟩ : ∃ Z_ : ByteArray, U ++ ⟨#[58, 32, 39]⟩ = Z_ := ⟨_, rfl⟩
                rw [hV1] at hE1
                have hE := hE1.symm
                have sV : V1.size = U.size + 3 := by rw [← hV1, ByteArray.size_append]; rfl
                have sE : U2.size = V1.size + s3.size := by rw [← hE, ByteArray.size_append]
                have v1 : ¬ (9223372036854775807 < U.size + 3) := by omega
                have v2 : ¬ (9223372036854775807 < V1.size + s3.size) := by omega
                clear ht0 ht1 hj0 hE1 sV sE hbz hnz
                go_wp2_with fail
                refine wp_region_rv 13 GK (kindW []) (by kernel_rfl) (by kernel_rfl) (kb_trans _) (kb_refl _) (kb_start _ _) (kindW_mono _ (by intro p hp; cases hp)) ?_
                simp only [List.take_succ_cons, List.take_zero, List.drop_succ_cons, List.drop_zero]
                iterate 13 (refine rv_det (by kernel_rfl) rfl (by intro w hG hH; have hc0 := KB.cell hG (fun x => x) (e0); have hc1 := KB.cell hG (fun x => x) (y4); have hc2 := KB.cell hG (fun x => x) (hq1); have hc3 := KB.cell hG (fun x => x) (hq3); go_simp; first | done | with_reducible rfl) ?_; simp only [Act.put, List.setIfInBounds_toArray, List.set_cons_zero, List.set_cons_succ])
                refine rv_nil (fun w hG hH => ?_)
                have H1 : Hid (KB F0 wo w) := Lib.hid (hsi.out.trans hG)
                clear hG hH e0 y4 hq1 hq3
                go_wp2_with fail
                go_roundw
                case rel => exact ⟨j + 1, by omega, by rw [← HU2.out], by go_num, H1⟩
                case measure => simp [intOf]; omega
              · have hE1 := ht1 hj0
                have t2 : ((j : Int) == 0) = false := by simp; omega
                obtain ⟨V1, hV1⟩ : ∃ Z_ : ByteArray, U ++ ⟨#[32, 43, 32, 39]⟩ = Z_ := ⟨_, rfl⟩
                rw [hV1] at hE1
                have hE := hE1.symm
                have sV : V1.size = U.size + 4 := by rw [← hV1, ByteArray.size_append]; rfl
                have sE : U2.size = V1.size + s3.size := by rw [← hE, ByteArray.size_append]
                have v1 : ¬ (9223372036854775807 < U.size + 4) := by omega
                have v2 : ¬ (9223372036854775807 < V1.size + s3.size) := by omega
                clear ht0 ht1 hj0 hE1 sV sE hbz hnz
                go_wp2_with fail
                refine wp_region_rv 13 GK (kindW []) (by kernel_rfl) (by kernel_rfl) (kb_trans _) (kb_refl _) (kb_start _ _) (kindW_mono _ (by intro p hp; cases hp)) ?_
                simp only [List.take_succ_cons, List.take_zero, List.drop_succ_cons, List.drop_zero]
                iterate 13 (refine rv_det (by kernel_rfl) rfl (by intro w hG hH; have hc0 := KB.cell hG (fun x => x) (e0); have hc1 := KB.cell hG (fun x => x) (y4); have hc2 := KB.cell hG (fun x => x) (hq1); have hc3 := KB.cell hG (fun x => x) (hq3); go_simp; first | done | with_reducible rfl) ?_; simp only [Act.put, List.setIfInBounds_toArray, List.set_cons_zero, List.set_cons_succ])
                refine rv_nil (fun w hG hH => ?_)
                have H1 : Hid (KB F0 wo w) := Lib.hid (hsi.out.trans hG)
                clear hG hH e0 y4 hq1 hq3
                go_wp2_with fail
                go_roundw
                case rel => exact ⟨j + 1, by omega, by rw [← HU2.out], by go_num, H1⟩
                case measure => simp [intOf]; omega
            · obtain rfl : j = M2 := by omega
              have H1 : Hid (KB F0 W1 ws) := Lib.hid (KZ.out.1.trans HKW.out)
              clear hsi
              go_wp2_with fail
              go_roundw
              case rel => exact ⟨k + 1, by omega, by rw [HSE.out, HS2.out], by go_num, H1⟩
              case measure => simp [intOf]; omega
      · have hE1 := hj1 h0
        have t1 : decide (0 < k) = true := decide_eq_true (by omega)
        obtain ⟨B0, hB0⟩ : ∃ Z_ : ByteArray, S ++ ⟨#[44, 32]⟩ = Z_ := ⟨_, rfl⟩
        obtain ⟨B1, hB1⟩ : ∃ Z_ : ByteArray, B0 ++ ⟨#[39]⟩ = Z_ := ⟨_, rfl⟩
        obtain ⟨B, hB⟩ : ∃ Z_ : ByteArray, B1 ++ s2 = Z_ := ⟨_, rfl⟩
        have HSE : Hid (B ++ tlK nm M2 = S2) := Lib.hid (by rw [hE1, ← hB, ← hB1, ← hB0]; simp only [ByteArray.append_assoc])
        have sB0 : B0.size = S.size + 2 := by rw [← hB0, ByteArray.size_append]; rfl
        have sB1 : B1.size = B0.size + 1 := by rw [← hB1, ByteArray.size_append]; rfl
        have sB : B.size = B1.size + s2.size := by rw [← hB, ByteArray.size_append]
        have sE : S2.size = B.size + (tlK nm M2).size := by rw [← HSE.out, ByteArray.size_append]
        have HBZ : Hid (∀ j, j ≤ M2 → (B ++ tlK nm j).size ≤ 100000000000) := Lib.hid (fun j hj => by
          have := tlK_le (nm := nm) hj
          rw [ByteArray.size_append]; omega)
        have z1 : ¬ (9223372036854775807 < S.size + 2) := by omega
        have z2 : ¬ (9223372036854775807 < B0.size + 1) := by omega
        have z3 : ¬ (9223372036854775807 < B1.size + s2.size) := by omega
        clear hj0 hj1 h0 hE1 sB0 sB1 sB sE hz1 hs2
        go_wp2_with fail
        refine shareP (G := ?G2) ?cont2 ?main2
        case main2 =>
          intro key
          go_region
          obtain ⟨Wz, hWz⟩ : ∃ Wz, Wz = (wr.alloc (.cells #[.int .u8 (k2 : Nat), .int .i64 a2, .int .i64 n2, .string s2, .slice la2 M2 lc2] 44)).drew := ⟨_, rfl⟩
          rw [← hWz]
          have kz : KB F0 wr Wz := by rw [hWz]; exact ((KB.refl _ _).alloc _).drew
          have hY : Wz.heap[wr.heap.size]? = some (.cells #[.int .u8 (k2 : Nat), .int .i64 a2, .int .i64 n2, .string s2, .slice la2 M2 lc2] 44 (0, 0)) := by
            rw [hWz]; exact (alloc_new wr _)
          clear hWz
          revert hY
          revert kz
          revert Wz
          exact key
        case cont2 =>
          intro Wz kz hY
          have y3 : Wz.cell? ⟨wr.heap.size, 3, none⟩ = some (.string s2) := blk_cell hY 3
          have KZ := Lib.hid (And.intro (hst.out.trans kz) hY)
          clear kz hY f0 f1 f2 f3 f4 hcc lt1 lt3 lt4 e0
          go_wp2_with fail
          clear y3
          obtain ⟨Xn, hXn⟩ : ∃ Xn, Xn = wr.heap.size := ⟨_, rfl⟩
          rw [← hXn] at KZ ⊢
          clear hXn hst
          have KZ1 := Lib.hid KZ.out.1
          have HI0 : Hid (KB F0 Wz Wz) := Lib.hid (KB.refl _ _)
          obtain ⟨wo, hwo⟩ : ∃ wo : World, wo = Wz := ⟨_, rfl⟩
          have HWO := Lib.hid hwo
          have HI1 : Hid (KB F0 wo Wz) := Lib.hid (by rw [hwo]; exact KB.refl _ _)
          clear hwo HI0
          go_loopw [5, 8] (fun sv kv ws => ∃ j : Nat, j ≤ M2 ∧ sv = .string (B ++ tlK nm j) ∧ kv = .int .i64 (j : Nat) ∧ Hid (KB F0 wo ws)) (fun _ kv _ => M2 - (intOf kv).toNat)
          case atStart => exact ⟨0, by omega, by rw [show tlK nm 0 = ByteArray.empty from rfl, ByteArray.append_empty], rfl, HI1⟩
          case round =>
            obtain ⟨ws, rfl⟩ : ∃ ws : World, ws = wr := ⟨_, rfl⟩
            obtain ⟨j, hj, rfl, rfl, hsi⟩ := hrel
            have hkw : KB F0 Wz ws := by rw [← HWO.out]; exact hsi.out
            have y4 : ws.cell? ⟨Xn, 4, none⟩ = some (.slice la2 M2 lc2) := blk_cell (hkw.heap (fun x => x) KZ.out.2) 4
            have HKW := Lib.hid hkw
            clear hkw
            by_cases hjl : j < M2
            · have hji : (j : Int) < (M2 : Int) := by omega
              obtain ⟨lb2, lo2, q, rfl, hq1, hqN, hq3, hnz⟩ := HIN.out j hjl
              have hkw2 := (HB.out.1.trans KZ.out.1).trans HKW.out
              have hq1 := hkw2.cell (p := ⟨lb2, lo2 + j, none⟩) (fun x => x) hq1
              have hq3 := hkw2.cell (p := ⟨b, off + q * 5 + 3, none⟩) (fun x => x) hq3
              have e0 : ws.cell? ⟨w0.heap.size, 0, none⟩ = some (.slice (some ⟨b, off, none⟩) N cap) := blk_cell ((KZ.out.1.trans HKW.out).heap (fun x => x) HB.out.2) 0
              have hqi : (q : Int) < (N : Int) := by omega
              have hbz := HBZ.out (j + 1) (by omega)
              have ht0 : j = 0 → B ++ tlK nm (j + 1) = B ++ tlK nm j ++ ⟨#[58, 32, 39]⟩ ++ nm j := fun e => by
                subst e
                rw [show tlK nm 0 = ByteArray.empty from rfl, ByteArray.append_empty]
                show B ++ (_ ++ _) = _
                rw [ByteArray.append_assoc]
              have ht1 : j ≠ 0 → B ++ tlK nm (j + 1) = B ++ tlK nm j ++ ⟨#[32, 43, 32, 39]⟩ ++ nm j := fun e => by
                rw [show tlK nm (j + 1) = tlK nm j ++ ⟨#[32, 43, 32, 39]⟩ ++ nm j from if_neg e]
                simp only [ByteArray.append_assoc]
              obtain ⟨U, hU⟩ : ∃ U, U = B ++ tlK nm j := ⟨_, rfl⟩
              obtain ⟨U2, hU2⟩ : ∃ U, U = B ++ tlK nm (j + 1) := ⟨_, rfl⟩
              have HU2 := Lib.hid hU2
              rw [← hU, ← hU2] at ht0 ht1
              rw [← hU2] at hbz
              rw [← hU]
              generalize nm j = s3 at hq3 hnz ht0 ht1
              clear hU hU2 hkw2 hqN
              by_cases hj0 : j = 0
              · have hE1 := ht0 hj0
                have t2 : ((j : Int) == 0) = true := by simp; omega
                obtain ⟨V1, hV1⟩ : ∃ Z_ : ByteArray, U ++ ⟨#[58, 32, 39]⟩ = Z_ := ⟨_, rfl⟩
                rw [hV1] at hE1
                have hE := hE1.symm
                have sV : V1.size = U.size + 3 := by rw [← hV1, ByteArray.size_append]; rfl
                have sE : U2.size = V1.size + s3.size := by rw [← hE, ByteArray.size_append]
                have v1 : ¬ (9223372036854775807 < U.size + 3) := by omega
                have v2 : ¬ (9223372036854775807 < V1.size + s3.size) := by omega
                clear ht0 ht1 hj0 hE1 sV sE hbz hnz
                go_wp2_with fail
                refine wp_region_rv 13 GK (kindW []) (by kernel_rfl) (by kernel_rfl) (kb_trans _) (kb_refl _) (kb_start _ _) (kindW_mono _ (by intro p hp; cases hp)) ?_
                simp only [List.take_succ_cons, List.take_zero, List.drop_succ_cons, List.drop_zero]
                iterate 13 (refine rv_det (by kernel_rfl) rfl (by intro w hG hH; have hc0 := KB.cell hG (fun x => x) (e0); have hc1 := KB.cell hG (fun x => x) (y4); have hc2 := KB.cell hG (fun x => x) (hq1); have hc3 := KB.cell hG (fun x => x) (hq3); go_simp; first | done | with_reducible rfl) ?_; simp only [Act.put, List.setIfInBounds_toArray, List.set_cons_zero, List.set_cons_succ])
                refine rv_nil (fun w hG hH => ?_)
                have H1 : Hid (KB F0 wo w) := Lib.hid (hsi.out.trans hG)
                clear hG hH e0 y4 hq1 hq3
                go_wp2_with fail
                go_roundw
                case rel => exact ⟨j + 1, by omega, by rw [← HU2.out], by go_num, H1⟩
                case measure => simp [intOf]; omega
              · have hE1 := ht1 hj0
                have t2 : ((j : Int) == 0) = false := by simp; omega
                obtain ⟨V1, hV1⟩ : ∃ Z_ : ByteArray, U ++ ⟨#[32, 43, 32, 39]⟩ = Z_ := ⟨_, rfl⟩
                rw [hV1] at hE1
                have hE := hE1.symm
                have sV : V1.size = U.size + 4 := by rw [← hV1, ByteArray.size_append]; rfl
                have sE : U2.size = V1.size + s3.size := by rw [← hE, ByteArray.size_append]
                have v1 : ¬ (9223372036854775807 < U.size + 4) := by omega
                have v2 : ¬ (9223372036854775807 < V1.size + s3.size) := by omega
                clear ht0 ht1 hj0 hE1 sV sE hbz hnz
                go_wp2_with fail
                refine wp_region_rv 13 GK (kindW []) (by kernel_rfl) (by kernel_rfl) (kb_trans _) (kb_refl _) (kb_start _ _) (kindW_mono _ (by intro p hp; cases hp)) ?_
                simp only [List.take_succ_cons, List.take_zero, List.drop_succ_cons, List.drop_zero]
                iterate 13 (refine rv_det (by kernel_rfl) rfl (by intro w hG hH; have hc0 := KB.cell hG (fun x => x) (e0); have hc1 := KB.cell hG (fun x => x) (y4); have hc2 := KB.cell hG (fun x => x) (hq1); have hc3 := KB.cell hG (fun x => x) (hq3); go_simp; first | done | with_reducible rfl) ?_; simp only [Act.put, List.setIfInBounds_toArray, List.set_cons_zero, List.set_cons_succ])
                refine rv_nil (fun w hG hH => ?_)
                have H1 : Hid (KB F0 wo w) := Lib.hid (hsi.out.trans hG)
                clear hG hH e0 y4 hq1 hq3
                go_wp2_with fail
                go_roundw
                case rel => exact ⟨j + 1, by omega, by rw [← HU2.out], by go_num, H1⟩
                case measure => simp [intOf]; omega
            · obtain rfl : j = M2 := by omega
              have H1 : Hid (KB F0 W1 ws) := Lib.hid (KZ.out.1.trans HKW.out)
              clear hsi
              go_wp2_with fail
              go_roundw
              case rel => exact ⟨k + 1, by omega, by rw [HSE.out, HS2.out], by go_num, H1⟩
              case measure => simp [intOf]; omega
    · obtain rfl : k = M := by omega
      have hz1 := HZ.out k (Nat.le_refl _)
      generalize jnK ⟨#[44, 32]⟩ g k = S at hz1 HR ⊢
      by_cases h0 : S.size = 0
      · have t1 : S.toList.isEmpty = true := by rw [isEmpty_size]; exact decide_eq_true h0
        have HE : Hid (r = ByteArray.empty) := Lib.hid (by rw [HR.out, if_pos h0])
        clear h0 hz1
        go_wp2_with fail
        go_ret
        exact ⟨ret_eq (by rw [HE.out]; rfl), HB.out.1.trans hst.out⟩
      · have t1 : S.toList.isEmpty = false := by rw [isEmpty_size]; exact decide_eq_false h0
        have hE := HR.out
        rw [if_neg h0] at hE
        obtain ⟨A, hA⟩ : ∃ Z_ : ByteArray, ⟨#[60]⟩ ++ S = Z_ := ⟨_, rfl⟩
        rw [hA] at hE
        have hE2 := hE.symm
        have sA : A.size = 1 + S.size := by rw [← hA, ByteArray.size_append]; rfl
        have z1 : ¬ (9223372036854775807 < 1 + S.size) := by omega
        have z2 : ¬ (9223372036854775807 < A.size + 1) := by omega
        clear h0 hz1 hE sA
        go_wp2_with fail
        go_ret
        exact ⟨rfl, HB.out.1.trans hst.out⟩
end Go.Proofs.YtoophdcagpfmpaaGreatDoor

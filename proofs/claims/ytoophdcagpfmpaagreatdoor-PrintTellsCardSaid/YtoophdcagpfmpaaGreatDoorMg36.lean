/- loanwordref05: block, iff, stmt of every node. loanwordref05: item, a struct. loanwordref05: item, a function. -/
import Derived.Test.YtoophdcagpfmpaaGreatDoorPsF
namespace Go.Proofs.YtoophdcagpfmpaaGreatDoor
open Go.RowKit

theorem ref_all (ts : List Nd) (h : TOk ts) (hok : ∀ x ∈ ts, NdOk x) (a : Option Addr) (cap : Nat) (wb : World) (hts : NodesAt wb a ts) (hT : PT wb) (f : Nat) : ∀ n, n < ts.length → ts.length ≤ n + f → RBlk ts a cap wb n ∧ RIff ts a cap wb n ∧ RStm ts a cap wb n := by
  induction f with
  | zero => intro n h1 h2; omega
  | succ f ih =>
    intro n hn hf
    have hB := rblock_step ts h a cap wb n hts hn (fun q h1 h2 => (ih q h2 (by omega)).2.2)
    have hC := riff_step ts h hok a cap wb n hts hT hn (fun q h1 h2 => (ih q h2 (by omega)).1) (fun q h1 h2 => (ih q h2 (by omega)).2.1)
    exact ⟨hB, hC, rstmt_step ts h hok a cap wb n hts hT hn (fun q h1 h2 => (ih q h2 (by omega)).1) hB hC⟩
theorem rstmt_any (ts : List Nd) (h : TOk ts) (hok : ∀ x ∈ ts, NdOk x) (a : Option Addr) (cap : Nat) (wb : World) (hts : NodesAt wb a ts) (hT : PT wb) {n : Nat} (hn : n < ts.length) : RStm ts a cap wb n := (ref_all ts h hok a cap wb hts hT ts.length n hn (by omega)).2.2
theorem rblock_any (ts : List Nd) (h : TOk ts) (hok : ∀ x ∈ ts, NdOk x) (a : Option Addr) (cap : Nat) (wb : World) (hts : NodesAt wb a ts) (hT : PT wb) {n : Nat} (hn : n < ts.length) : RBlk ts a cap wb n := (ref_all ts h hok a cap wb hts hT ts.length n hn (by omega)).1
end Go.Proofs.YtoophdcagpfmpaaGreatDoor

namespace Go.Proofs.YtoophdcagpfmpaaGreatDoor
open Go.RowKit

/-- A field or a parameter. -/
theorem fld_in {ts : List Nd} (h : TOk ts) {w : World} {b off cap : Nat} (hts : NodesAt w (some ⟨b, off, none⟩) ts) {p : Nat} (hp : p < ts.length) (hk : (ts.getD p nd0).k = 3 ∨ (ts.getD p nd0).k = 7) :
    ∃ q k2 la2 lo2 lc2 : Nat, ∃ (a2 n2 : Int) (s2 C : ByteArray), NdIn w b off ts.length p k2 a2 n2 s2 (some ⟨la2, lo2, none⟩) 1 lc2 ∧ w.cell? ⟨la2, lo2, none⟩ = some (.int .i64 q) ∧ s2.size ≤ 32 ∧ C.size ≤ 4000000 ∧ typedB ts p = s2 ++ ⟨#[58, 32]⟩ ++ C ∧
      ∀ W, KB F0 w W → TxtCall 49 #[.agg #[.slice (some ⟨b, off, none⟩) ts.length cap], .int .i64 q] W C := by
  have e1 := h.ty1 hp (by omega)
  have e2 := h.kid hp (i := 0) (by omega)
  have hz := Ty_size h e2.2.1
  have hw := wt1_pos h.good e2.2.1
  have hlen := h.len
  obtain ⟨la, lc, hnd, hin, -, -⟩ := NdIn.of hts hp
  obtain ⟨lb, lo, rfl, hc⟩ := hin 0 (by omega)
  rw [e2.2.2, Nat.add_zero] at hc
  rw [e1.1] at hnd
  refine ⟨_, _, lb, lo, lc, _, _, _, Ty ts (kid (ts.getD p nd0) 0), hnd, hc, (h.txt hp).2.1, by omega, ?_, fun W hk => typ_any ts h _ cap _ W e2.2.1 (hts.kbF hk) e1.2⟩
  unfold typedB tyK
  rw [if_pos (by omega)]
/-- A lifetime. -/
theorem lf_in {ts : List Nd} (h : TOk ts) {w : World} {b off : Nat} (hts : NodesAt w (some ⟨b, off, none⟩) ts) {p : Nat} (hp : p < ts.length) (hk : (ts.getD p nd0).k = 5) :
    ∃ (k2 : Nat) (la2 : Option Addr) (M2 lc2 : Nat) (a2 n2 : Int) (s2 : ByteArray) (nm : Nat → ByteArray), NdIn w b off ts.length p k2 a2 n2 s2 la2 M2 lc2 ∧ M2 ≤ 8 ∧ s2.size ≤ 32 ∧ lifeB ts p = ⟨#[39]⟩ ++ s2 ++ tlK nm M2 ∧
      ∀ j, j < M2 → ∃ lb2 lo2 q : Nat, la2 = some ⟨lb2, lo2, none⟩ ∧ w.cell? ⟨lb2, lo2 + j, none⟩ = some (.int .i64 (q : Nat)) ∧ q < ts.length ∧ w.cell? ⟨b, off + q * 5 + 3, none⟩ = some (.string (nm j)) ∧ (nm j).size ≤ 32 := by
  have e1 := h.life hp hk
  obtain ⟨la, lc, hnd, hin, -, -⟩ := NdIn.of hts hp
  refine ⟨_, la, _, lc, _, _, _, nmK ts (ts.getD p nd0), hnd, e1.1, (h.txt hp).2.1, ?_, fun j hj => ?_⟩
  · rw [tlK_life]; rfl
  · have e2 := h.kid hp hj
    obtain ⟨lb, lo, rfl, hc⟩ := hin j hj
    rw [e2.2.2] at hc
    obtain ⟨la3, lc3, hnd3, -, -, -⟩ := NdIn.of hts e2.2.1
    refine ⟨lb, lo, _, rfl, hc, e2.2.1, ?_, ?_⟩
    · rw [hnd3.c3]; unfold nmK; rw [if_pos hj]
    · unfold nmK; rw [if_pos hj]; exact (h.txt e2.2.1).2.1
theorem jnK_pos {sep : ByteArray} {g : Nat → ByteArray} {k : Nat} (hk : 0 < k) (h : 1 ≤ (g 0).size) : 1 ≤ (jnK sep g k).size := by
  have h1 : (jnK sep g 1).size ≤ (jnK sep g k).size := jnK_le (by omega)
  have h2 : jnK sep g 1 = ByteArray.empty ++ g 0 ∨ jnK sep g 1 = g 0 := by first | exact Or.inl rfl | exact Or.inr rfl
  rcases h2 with e | e
  · rw [e, ByteArray.size_append] at h1; omega
  · rw [e] at h1; omega
set_option maxRecDepth 100000 in
set_option maxHeartbeats 16000000 in
theorem ritem_struct (ts : List Nd) (h : TOk ts) (b off cap n : Nat) (w : World) (hts : NodesAt w (some ⟨b, off, none⟩) ts) (hi : n < ts.length) (hk2 : (ts.getD n nd0).k = 2) :
    Calls Tryz.prog 54 #[.agg #[.slice (some ⟨b, off, none⟩) ts.length cap], .int .i64 n] w (LnEnd w (St5 ts n 0 ByteArray.empty)) := by
  obtain ⟨w0, rfl⟩ : ∃ w0, w0 = w := ⟨_, rfl⟩
  have hlen := h.len
  have e1 := h.struct hi hk2
  have hR : St5 ts n 0 ByteArray.empty = [structB ts (ts.getD n nd0)] := by
    rw [St_eq h.down hi, stN, hk2]
    show [ByteArray.empty ++ structB ts (ts.getD n nd0)] = _
    rw [empty_app]
  rw [hR]
  unfold structB
  have hjz : (jnK ⟨#[44, 32]⟩ (tdK ts (ts.getD n nd0)) (ts.getD n nd0).l.length).size ≤ 4000000 := by
    have h1 := jnK_size (sep := ⟨#[44, 32]⟩) (g := tdK ts (ts.getD n nd0)) (C := 200) (w := wK ts (ts.getD n nd0)) (k := (ts.getD n nd0).l.length) (fun i hi2 => by
      have e2 := h.kid hi hi2
      have h6 := typed_size h e2.2.1
      rw [wK_at hi2, show tdK ts (ts.getD n nd0) i = typedB ts (kid (ts.getD n nd0) i) from if_pos hi2]
      have : (⟨#[44, 32]⟩ : ByteArray).size = 2 := rfl
      omega)
    have h2 := sum_le h hi (ts.getD n nd0).l.length
    omega
  have hss := (h.txt hi).2.1
  obtain ⟨la, lc, hnd, hints, hlm, hlc⟩ := NdIn.of hts hi
  have FD := Lib.hid (fun (W : World) (hk : KB F0 w0 W) => rfields_any b off ts.length cap la (ts.getD n nd0).l.length lc (fun i => (ts.getD n nd0).l.getD i 0) (tdK ts (ts.getD n nd0)) W (by omega) (by omega) (fun i hi2 => by
    have e2 := h.kid hi hi2
    obtain ⟨lb, lo, rfl, hc⟩ := hints i hi2
    rw [e2.2.2] at hc
    obtain ⟨q, k2, la2, lo2, lc2, a2, n2, s2, C, f1, f2, f3, f4, f5, f6⟩ := fld_in h (cap := cap) (hts.kbF hk) e2.2.1 (Or.inl (e1.2 i hi2))
    exact ⟨lb, lo, _, q, k2, la2, lo2, lc2, a2, n2, s2, C, rfl, hk.cell (p := ⟨lb, lo + i, none⟩) (fun x => x) hc, f1, f2, f3, f4, by rw [show tdK ts (ts.getD n nd0) i = typedB ts (kid (ts.getD n nd0) i) from if_pos hi2]; exact f5, f6⟩) (by omega))
  generalize jnK ⟨#[44, 32]⟩ (tdK ts (ts.getD n nd0)) (ts.getD n nd0).l.length = C at hjz FD ⊢
  have i1 : (n : Int) < (ts.length : Int) := by omega
  have hnd := (hnd)
  have c0 := hnd.c0
  have c1 := hnd.c1
  have c2 := hnd.c2
  have c3 := hnd.c3
  have c4 := hnd.c4
  rw [hk2] at c0
  unfold maxLen at hlm
  clear hints hR hts h hi e1 hnd
  generalize (ts.getD n nd0).at_ = at_ at c1
  generalize (ts.getD n nd0).n = m at c2
  generalize (ts.getD n nd0).s = s at c3 hss ⊢
  generalize (ts.getD n nd0).l.length = M at c4 FD hlc
  generalize ts.length = N at i1 FD hlen ⊢
  obtain ⟨W1, hW1⟩ : ∃ W1, W1 = w0.alloc (.cells #[.slice (some ⟨b, off, none⟩) N cap] 24) := ⟨_, rfl⟩
  obtain ⟨W2, hW2⟩ : ∃ W2, W2 = W1.alloc (.cells #[.int .u8 2, .int .i64 at_, .int .i64 m, .string s, .slice la M lc] 44) := ⟨_, rfl⟩
  have k1 : KB F0 w0 W1 := by rw [hW1]; exact (KB.refl _ _).alloc _
  have k12 : KB F0 W1 W2 := by rw [hW2]; exact (KB.refl _ _).alloc _
  have hs1 : W1.heap.size = w0.heap.size + 1 := by rw [hW1]; simp
  have hbT : W2.heap[w0.heap.size]? = some (.cells #[.slice (some ⟨b, off, none⟩) N cap] 24 (0, 0)) := k12.heap (fun x => x) (by rw [hW1]; exact alloc_new _ _)
  have hbX : W2.heap[w0.heap.size + 1]? = some (.cells #[.int .u8 2, .int .i64 at_, .int .i64 m, .string s, .slice la M lc] 44 (0, 0)) := by rw [hW2, ← hs1]; exact alloc_new _ _
  have c0 : W1.cell? ⟨b, off + n * 5, none⟩ = some (.int .u8 2) := k1.cell (p := ⟨b, off + n * 5, none⟩) (fun x => x) c0
  have c1 := k1.cell (p := ⟨b, off + n * 5 + 1, none⟩) (fun x => x) c1
  have c2 := k1.cell (p := ⟨b, off + n * 5 + 2, none⟩) (fun x => x) c2
  have c3 := k1.cell (p := ⟨b, off + n * 5 + 3, none⟩) (fun x => x) c3
  have c4 := k1.cell (p := ⟨b, off + n * 5 + 4, none⟩) (fun x => x) c4
  have e4 : W2.cell? ⟨w0.heap.size, 0, none⟩ = some (.slice (some ⟨b, off, none⟩) N cap) := blk_cell hbT 0
  have d3 : W2.cell? ⟨w0.heap.size + 1, 3, none⟩ = some (.string s) := blk_cell hbX 3
  have d4 : W2.cell? ⟨w0.heap.size + 1, 4, none⟩ = some (.slice la M lc) := blk_cell hbX 4
  have HK := Lib.hid (k1.trans k12)
  have HW := Lib.hid (And.intro hW1 hW2)
  obtain ⟨A, hA⟩ : ∃ Z_ : ByteArray, ⟨#[115, 116, 114, 117, 99, 116, 32]⟩ ++ s = Z_ := ⟨_, rfl⟩
  obtain ⟨B, hB⟩ : ∃ Z_ : ByteArray, A ++ ⟨#[32, 123, 32]⟩ = Z_ := ⟨_, rfl⟩
  obtain ⟨D, hD⟩ : ∃ Z_ : ByteArray, B ++ C = Z_ := ⟨_, rfl⟩
  obtain ⟨Z, hZ⟩ : ∃ Z_ : ByteArray, D ++ ⟨#[32, 125]⟩ = Z_ := ⟨_, rfl⟩
  rw [hA, hB, hD, hZ]
  have sA : A.size = 7 + s.size := by rw [← hA, ByteArray.size_append]; rfl
  have sB : B.size = A.size + 3 := by rw [← hB, ByteArray.size_append]; rfl
  have sD : D.size = B.size + C.size := by rw [← hD, ByteArray.size_append]
  have z1 : ¬ (9223372036854775807 < 7 + s.size) := by omega
  have z2 : ¬ (9223372036854775807 < A.size + 3) := by omega
  have z3 : ¬ (9223372036854775807 < B.size + C.size) := by omega
  have z4 : ¬ (9223372036854775807 < D.size + 2) := by omega
  rw [hW1] at c0 c1 c2 c3 c4
  unfold TxtCall at FD
  clear k1 k12 hs1 hbT hbX hW1 hW2 sA sB sD hjz hss
  go_enter Tryz.func54, Tryz.ntmps54
  go_wp2_with fail
  rw [← HW.out.1, ← HW.out.2]
  clear c0 c1 c2 c3 c4
  refine wp_region_rv 10 GK (kindW [(7, (fun v => v = .string C), (fun _ _ => True))]) (by kernel_rfl) (by kernel_rfl) (kb_trans _) (kb_refl _) (kb_start _ _) (kindW_mono _ (by intro p hp; simp only [List.mem_cons, List.not_mem_nil, or_false] at hp; (subst hp; exact lasts_true))) ?_
  simp only [List.take_succ_cons, List.take_zero, List.drop_succ_cons, List.drop_zero]
  iterate 7 (refine rv_det (by kernel_rfl) rfl (by intro w hG hH; have hc0 := KB.cell hG (fun x => x) (d3); have hc1 := KB.cell hG (fun x => x) (e4); have hc2 := KB.cell hG (fun x => x) (d4); go_simp; first | done | with_reducible rfl) ?_; simp only [Act.put, List.setIfInBounds_toArray, List.set_cons_zero, List.set_cons_succ])
  refine rv_rel (by kernel_rfl) rfl ⟨_, rfl⟩ (by
    intro w hG hH
    refine opVal_call (by go_simp; first | done | exact ⟨⟨rfl, rfl⟩, rfl⟩) ?_
    refine (FD.out _ (HK.out.trans hG)).mono ?_
    rintro e w' ⟨rfl, hq⟩
    exact ⟨_, rfl, rfl, by first | (obtain ⟨nq, rfl⟩ := hq; exact (KB.refl _ _).drewN _) | (subst hq; exact KB.refl _ _) | exact hq, trivial⟩) ?_
  rintro v rfl
  simp only [Act.put, List.setIfInBounds_toArray, List.set_cons_zero, List.set_cons_succ]
  iterate 2 (refine rv_det (by kernel_rfl) rfl (by intro w hG hH; go_simp; first | done | with_reducible rfl) ?_; simp only [Act.put, List.setIfInBounds_toArray, List.set_cons_zero, List.set_cons_succ])
  refine rv_nil (fun w hG hH => ?_)
  have K := Lib.hid (HK.out.trans hG)
  clear hG hH e4 d3 d4
  go_wp2_with fail
  go_ret
  exact ⟨_, rfl, own_one _ _ K.out.size, K.out.alloc _⟩
end Go.Proofs.YtoophdcagpfmpaaGreatDoor

namespace Go.Proofs.YtoophdcagpfmpaaGreatDoor
open Go.RowKit

set_option maxRecDepth 100000 in
set_option maxHeartbeats 16000000 in
theorem ritem_fn (ts : List Nd) (h : TOk ts) (hok : ∀ x ∈ ts, NdOk x) (b off cap n : Nat) (w : World) (hts : NodesAt w (some ⟨b, off, none⟩) ts) (hT : PT w) (hi : n < ts.length) (hk4 : (ts.getD n nd0).k = 4) :
    Calls Tryz.prog 54 #[.agg #[.slice (some ⟨b, off, none⟩) ts.length cap], .int .i64 n] w (LnEnd w (St5 ts n 0 ByteArray.empty)) := by
  obtain ⟨w0, rfl⟩ : ∃ w0, w0 = w := ⟨_, rfl⟩
  have hlen := h.len
  obtain ⟨k, hk, hk8, hk2, hl18, hlf, hpr, hty, hbl⟩ := h.fn hi hk4
  have hsf := St_fn h hi hk4 0 ByteArray.empty
  rw [if_pos (by omega), empty_app] at hsf
  rw [hsf]
  unfold fnHead
  have hss := (h.txt hi).2.1
  obtain ⟨la, lc, hnd, hints, hlm, hlc⟩ := NdIn.of hts hi
  unfold maxLen at hlm
  obtain ⟨lb, lo, rfl, -⟩ := hints 0 (by omega)
  have hints : ∀ i, i < (ts.getD n nd0).l.length → w0.cell? ⟨lb, lo + i, none⟩ = some (.int .i64 ((ts.getD n nd0).l.getD i 0)) := fun i hi2 => by
    obtain ⟨lb2, lo2, e, hc⟩ := hints i hi2
    simp only [Option.some.injEq, Addr.mk.injEq, and_true] at e
    obtain ⟨rfl, rfl⟩ := e
    exact hc
  have hL : ∀ i, i < k → ∃ q : Nat, (ts.getD n nd0).l.getD i 0 = (q : Int) ∧ q < ts.length ∧ (ts.getD q nd0).k = 5 ∧ lfK ts (ts.getD n nd0) i = lifeB ts q ∧ wK ts (ts.getD n nd0) i = wt1 ts q := fun i hi2 => by
    have e2 := h.kid hi (i := i) (by omega)
    exact ⟨_, e2.2.2, e2.2.1, hlf i hi2, if_pos (by omega), wK_at (by omega)⟩
  have hP : ∀ i, i < (ts.getD n nd0).l.length - 2 - k → ∃ q : Nat, (ts.getD n nd0).l.getD (k + i) 0 = (q : Int) ∧ q < ts.length ∧ (ts.getD q nd0).k = 7 ∧ tdK ts (ts.getD n nd0) (k + i) = typedB ts q ∧ wK ts (ts.getD n nd0) (k + i) = wt1 ts q := fun i hi2 => by
    have e2 := h.kid hi (i := k + i) (by omega)
    exact ⟨_, e2.2.2, e2.2.1, hpr (k + i) (by omega) (by omega), if_pos (by omega), wK_at (by omega)⟩
  have eT := h.kid hi (i := (ts.getD n nd0).l.length - 2) (by omega)
  have eB := h.kid hi (i := (ts.getD n nd0).l.length - 1) (by omega)
  have hT0 : tyK ts (ts.getD n nd0) ((ts.getD n nd0).l.length - 2) = Ty ts (kid (ts.getD n nd0) ((ts.getD n nd0).l.length - 2)) := if_pos (by omega)
  have hTz := Ty_size h eT.2.1
  have hTw := wt1_pos h.good eT.2.1
  have hLz : (jnK ⟨#[44, 32]⟩ (lfK ts (ts.getD n nd0)) k).size ≤ 4000000 := by
    have h1 := jnK_size (sep := ⟨#[44, 32]⟩) (g := lfK ts (ts.getD n nd0)) (C := 200) (w := wK ts (ts.getD n nd0)) (k := k) (fun i hi2 => by
      obtain ⟨q, h1, h2, h3, h4, h5⟩ := hL i hi2
      have h6 := life_size h h2
      rw [h4, h5]
      have : (⟨#[44, 32]⟩ : ByteArray).size = 2 := rfl
      omega)
    have h2 := sum_le h hi k
    omega
  have hPz : (parB ts (ts.getD n nd0) k).size ≤ 4000000 := by
    have h1 := jnK_size (sep := ⟨#[44, 32]⟩) (g := fun i => tdK ts (ts.getD n nd0) (k + i)) (C := 200) (w := fun i => wK ts (ts.getD n nd0) (k + i)) (k := (ts.getD n nd0).l.length - 2 - k) (fun i hi2 => by
      obtain ⟨q, h1, h2, h3, h4, h5⟩ := hP i hi2
      have h6 := typed_size h h2
      rw [h4, h5]
      have : (⟨#[44, 32]⟩ : ByteArray).size = 2 := rfl
      omega)
    have h2 := sum_le h hi (k + ((ts.getD n nd0).l.length - 2 - k))
    have h3 := sumK_shift (wK ts (ts.getD n nd0)) k ((ts.getD n nd0).l.length - 2 - k)
    unfold parB
    omega
  have KA := Lib.hid (fun (W : World) (hk : KB F0 w0 W) => typ_any ts h (some ⟨b, off, none⟩) cap _ W eT.2.1 (hts.kbF hk) hty)
  have BL := Lib.hid (fun (W : World) (hd : ByteArray) (hk : KB F0 w0 W) (hs : hd.size ≤ 1000000000) => rblock_any ts h hok (some ⟨b, off, none⟩) cap w0 hts hT eB.2.1 W 0 hd hk hbl (Nat.zero_le _) hs)
  have hkn : (ts.getD n nd0).n.toNat = k := by rw [hk]; exact Int.toNat_natCast k
  rw [hkn, hT0]
  have TL := Lib.hid (fun (W : World) (hkb : KB F0 w0 W) => rlives_any b off ts.length cap (some ⟨lb, lo, none⟩) k lc (lfK ts (ts.getD n nd0)) W (by omega) (by omega) (fun i hi2 => by
    obtain ⟨q, h1, h2, h3, h4, h5⟩ := hL i hi2
    have hc := hints i (by omega)
    rw [h1] at hc
    obtain ⟨k2, la2, M2, lc2, a2, n2, s2, nm, f1, f2, f3, f4, f5⟩ := lf_in h (hts.kbF hkb) h2 h3
    exact ⟨lb, lo, q, k2, la2, M2, lc2, a2, n2, s2, nm, rfl, hkb.cell (p := ⟨lb, lo + i, none⟩) (fun x => x) hc, f1, f2, f3, by rw [h4]; exact f4, f5⟩) (by omega))
  have TP := Lib.hid (fun (W : World) (hkb : KB F0 w0 W) => rfields_any b off ts.length cap (some ⟨lb, lo + k, none⟩) ((ts.getD n nd0).l.length - 2 - k) (lc - k) (fun i => (ts.getD n nd0).l.getD (k + i) 0) (fun i => tdK ts (ts.getD n nd0) (k + i)) W (by omega) (by omega) (fun i hi2 => by
    obtain ⟨q, h1, h2, h3, h4, h5⟩ := hP i hi2
    have hc := hints (k + i) (by omega)
    rw [h1, ← Nat.add_assoc] at hc
    obtain ⟨q2, k2, la2, lo2, lc2, a2, n2, s2, C, f1, f2, f3, f4, f5, f6⟩ := fld_in h (cap := cap) (hts.kbF hkb) h2 (Or.inr h3)
    exact ⟨lb, lo + k, q, q2, k2, la2, lo2, lc2, a2, n2, s2, C, rfl, hkb.cell (p := ⟨lb, lo + k + i, none⟩) (fun x => x) hc, f1, f2, f3, f4, by rw [h4]; exact f5, f6⟩) (by unfold parB at hPz; omega))
  rw [show jnK ⟨#[44, 32]⟩ (fun i => tdK ts (ts.getD n nd0) (k + i)) ((ts.getD n nd0).l.length - 2 - k) = parB ts (ts.getD n nd0) k from rfl] at TP
  have hlv : (if (jnK ⟨#[44, 32]⟩ (lfK ts (ts.getD n nd0)) k).size = 0 then ByteArray.empty else ⟨#[60]⟩ ++ jnK ⟨#[44, 32]⟩ (lfK ts (ts.getD n nd0)) k ++ ⟨#[62]⟩) = livesB ts (ts.getD n nd0) k := by
    unfold livesB
    by_cases h0 : 0 < k
    · have : 1 ≤ (jnK ⟨#[44, 32]⟩ (lfK ts (ts.getD n nd0)) k).size := jnK_pos h0 (by
        obtain ⟨q, h1, h2, h3, h4, h5⟩ := hL 0 h0
        rw [h4]
        unfold lifeB
        split <;> (simp only [ByteArray.size_append]; have : (⟨#[39]⟩ : ByteArray).size = 1 := rfl; omega))
      rw [if_neg (by omega), if_pos h0]
    · obtain rfl : k = 0 := by omega
      rfl
  rw [hlv] at TL
  have hLz2 : (livesB ts (ts.getD n nd0) k).size ≤ 4000100 := by
    unfold livesB
    split
    · simp only [ByteArray.size_append]; have : (⟨#[60]⟩ : ByteArray).size = 1 := rfl; have : (⟨#[62]⟩ : ByteArray).size = 1 := rfl; omega
    · exact Nat.zero_le _
  generalize livesB ts (ts.getD n nd0) k = LL at TL hLz2 ⊢
  have hT2 := hints _ (show (ts.getD n nd0).l.length - 2 < _ by omega)
  have hB2 := hints _ (show (ts.getD n nd0).l.length - 1 < _ by omega)
  rw [eT.2.2] at hT2
  rw [eB.2.2] at hB2
  generalize hPP : parB ts (ts.getD n nd0) k = PP at hPz TP ⊢
  generalize kid (ts.getD n nd0) ((ts.getD n nd0).l.length - 2) = qT at hTz hTw KA hT2 ⊢
  generalize kid (ts.getD n nd0) ((ts.getD n nd0).l.length - 1) = qB at BL hB2 ⊢
  generalize Ty ts qT = TT at hTz KA ⊢
  have c0 := hnd.c0
  have c1 := hnd.c1
  have c2 := hnd.c2
  have c3 := hnd.c3
  have c4 := hnd.c4
  rw [hk4] at c0
  rw [hk] at c2
  obtain ⟨A1, hA1⟩ : ∃ A : ByteArray, ⟨#[102, 110, 32]⟩ ++ (ts.getD n nd0).s = A := ⟨_, rfl⟩
  obtain ⟨A2, hA2⟩ : ∃ A : ByteArray, A1 ++ LL = A := ⟨_, rfl⟩
  obtain ⟨A3, hA3⟩ : ∃ A : ByteArray, A2 ++ ⟨#[40]⟩ = A := ⟨_, rfl⟩
  obtain ⟨A4, hA4⟩ : ∃ A : ByteArray, A3 ++ PP = A := ⟨_, rfl⟩
  obtain ⟨A5, hA5⟩ : ∃ A : ByteArray, A4 ++ ⟨#[41, 32, 45, 62, 32]⟩ = A := ⟨_, rfl⟩
  obtain ⟨A6, hA6⟩ : ∃ A : ByteArray, A5 ++ TT = A := ⟨_, rfl⟩
  obtain ⟨A7, hA7⟩ : ∃ A : ByteArray, A6 ++ ⟨#[32]⟩ = A := ⟨_, rfl⟩
  rw [hA1, hA2, hA3, hA4, hA5, hA6, hA7]
  have s1 : A1.size = 3 + (ts.getD n nd0).s.size := by rw [← hA1, ByteArray.size_append]; rfl
  have s2 : A2.size = A1.size + LL.size := by rw [← hA2, ByteArray.size_append]
  have s3 : A3.size = A2.size + 1 := by rw [← hA3, ByteArray.size_append]; rfl
  have s4 : A4.size = A3.size + PP.size := by rw [← hA4, ByteArray.size_append]
  have s5 : A5.size = A4.size + 5 := by rw [← hA5, ByteArray.size_append]; rfl
  have s6 : A6.size = A5.size + TT.size := by rw [← hA6, ByteArray.size_append]
  have s7 : A7.size = A6.size + 1 := by rw [← hA7, ByteArray.size_append]; rfl
  have y3 : ¬ (9223372036854775807 < 3 + (ts.getD n nd0).s.size) := by omega
  have y4 : ¬ (9223372036854775807 < A1.size + LL.size) := by omega
  have y5 : ¬ (9223372036854775807 < A2.size + 1) := by omega
  have y6 : ¬ (9223372036854775807 < A3.size + PP.size) := by omega
  have y7 : ¬ (9223372036854775807 < A4.size + 5) := by omega
  have y8 : ¬ (9223372036854775807 < A5.size + TT.size) := by omega
  have y9 : ¬ (9223372036854775807 < A6.size + 1) := by omega
  have HBL := Lib.hid (fun (W : World) (hk : KB F0 w0 W) => BL.out W A7 hk (by omega))
  obtain ⟨R, hR⟩ : ∃ R, R = St5 ts qB 0 A7 := ⟨_, rfl⟩
  rw [show blB 0 ++ A7 = A7 from empty_app _, ← hR] at HBL
  rw [← hR]
  clear hR BL
  clear hL hP hints hty hbl hlf hpr eT eB hT0 hPP hts hsf hkn hTz hTw hPz hLz hLz2 hlv s1 s2 s3 s4 s5 s6 s7 hk hk4 hT h hnd hok
  generalize (ts.getD n nd0).at_ = at_ at c1
  generalize (ts.getD n nd0).s = s at c3 hss hA1 y3
  obtain ⟨M2, hM2⟩ : ∃ M2, (ts.getD n nd0).l.length = M2 + 2 := ⟨(ts.getD n nd0).l.length - 2, by omega⟩
  rw [hM2] at c4 hlc hl18 hk2 TP hT2 hB2
  rw [show M2 + 2 - 2 = M2 by omega] at hT2 TP
  rw [show M2 + 2 - 1 = M2 + 1 by omega] at hB2
  clear hM2
  generalize ts.length = N at TL TP KA HBL hi hlen ⊢
  obtain ⟨M, hM⟩ : ∃ M, M = M2 + 2 := ⟨_, rfl⟩
  rw [← hM] at c4 hlc
  obtain ⟨W1, hW1⟩ : ∃ W1, W1 = w0.alloc (.cells #[.slice (some ⟨b, off, none⟩) N cap] 24) := ⟨_, rfl⟩
  obtain ⟨W2, hW2⟩ : ∃ W2, W2 = W1.alloc (.cells #[.int .u8 4, .int .i64 at_, .int .i64 (k : Nat), .string s, .slice (some ⟨lb, lo, none⟩) M lc] 44) := ⟨_, rfl⟩
  have k1 : KB F0 w0 W1 := by rw [hW1]; exact (KB.refl _ _).alloc _
  have k12 : KB F0 W1 W2 := by rw [hW2]; exact (KB.refl _ _).alloc _
  have hs1 : W1.heap.size = w0.heap.size + 1 := by rw [hW1]; simp
  have hbT : W2.heap[w0.heap.size]? = some (.cells #[.slice (some ⟨b, off, none⟩) N cap] 24 (0, 0)) := k12.heap (fun x => x) (by rw [hW1]; exact alloc_new _ _)
  have hbX : W2.heap[w0.heap.size + 1]? = some (.cells #[.int .u8 4, .int .i64 at_, .int .i64 (k : Nat), .string s, .slice (some ⟨lb, lo, none⟩) M lc] 44 (0, 0)) := by rw [hW2, ← hs1]; exact alloc_new _ _
  have c0 : W1.cell? ⟨b, off + n * 5, none⟩ = some (.int .u8 4) := k1.cell (p := ⟨b, off + n * 5, none⟩) (fun x => x) c0
  have c1 := k1.cell (p := ⟨b, off + n * 5 + 1, none⟩) (fun x => x) c1
  have c2 := k1.cell (p := ⟨b, off + n * 5 + 2, none⟩) (fun x => x) c2
  have c3 := k1.cell (p := ⟨b, off + n * 5 + 3, none⟩) (fun x => x) c3
  have c4 := k1.cell (p := ⟨b, off + n * 5 + 4, none⟩) (fun x => x) c4
  have k2 := k1.trans k12
  have hmT := k2.cell (p := ⟨lb, lo + M2, none⟩) (fun x => x) hT2
  have hmB := k2.cell (p := ⟨lb, lo + (M2 + 1), none⟩) (fun x => x) hB2
  have e4 : W2.cell? ⟨w0.heap.size, 0, none⟩ = some (.slice (some ⟨b, off, none⟩) N cap) := blk_cell hbT 0
  have d3 : W2.cell? ⟨w0.heap.size + 1, 3, none⟩ = some (.string s) := blk_cell hbX 3
  have d4 : W2.cell? ⟨w0.heap.size + 1, 4, none⟩ = some (.slice (some ⟨lb, lo, none⟩) M lc) := blk_cell hbX 4
  have i1 : (n : Int) < (N : Int) := by omega
  have i2 : (k : Int) ≤ (lc : Int) := by omega
  have i3 : (0 : Int) ≤ (k : Int) := by omega
  have i4 : (k : Int) ≤ (M2 : Int) := by omega
  have i5 : (M2 : Int) ≤ (lc : Int) := by omega
  have i6 : (M2 : Int) < (M : Int) := by omega
  have i7 : ((M2 + 1 : Nat) : Int) < (M : Int) := by omega
  have i8 : ¬ lc = k := by omega
  obtain ⟨L1, hL1⟩ : ∃ L1, L1 = M2 + 1 := ⟨_, rfl⟩
  rw [← hL1] at hmB i7
  have w1 : IntKind.i64.wrap ((M : Int) - 1) = (L1 : Int) := by rw [w64 (by omega) (by omega)]; omega
  have w2 : IntKind.i64.wrap ((L1 : Int) - 1) = (M2 : Int) := by rw [w64 (by omega) (by omega)]; omega
  have HK := Lib.hid k2
  have HW := Lib.hid (And.intro hW1 hW2)
  rw [hW1] at c0 c1 c2 c3 c4
  unfold TxtCall at TL TP KA
  clear k1 k12 k2 hs1 hbT hbX hW1 hW2 hT2 hB2 hM hL1 hlm hlc hi hlen hk2 hl18 hk8 hss
  go_enter Tryz.func54, Tryz.ntmps54
  go_wp2_with fail
  rw [← HW.out.1, ← HW.out.2]
  clear c0 c1 c2 c3 c4
  refine wp_region_rv 32 GK (kindW [(8, (fun v => v = .string LL), (fun _ _ => True)), (18, (fun v => v = .string PP), (fun _ _ => True)), (28, (fun v => v = .string TT), (fun _ _ => True))]) (by kernel_rfl) (by kernel_rfl) (kb_trans _) (kb_refl _) (kb_start _ _) (kindW_mono _ (by intro p hp; simp only [List.mem_cons, List.not_mem_nil, or_false] at hp; (rcases hp with rfl | rfl | rfl <;> exact lasts_true))) ?_
  simp only [List.take_succ_cons, List.take_zero, List.drop_succ_cons, List.drop_zero]
  iterate 8 (refine rv_det (by kernel_rfl) rfl (by intro w hG hH; have hc0 := KB.cell hG (fun x => x) (d3); have hc1 := KB.cell hG (fun x => x) (e4); have hc2 := KB.cell hG (fun x => x) (d4); go_simp; first | done | with_reducible rfl) ?_; simp only [Act.put, List.setIfInBounds_toArray, List.set_cons_zero, List.set_cons_succ])
  refine rv_rel (by kernel_rfl) rfl ⟨_, rfl⟩ (by
    intro w hG hH
    refine opVal_call (by go_simp; first | done | exact ⟨⟨rfl, rfl⟩, rfl⟩) ?_
    refine (TL.out _ (HK.out.trans hG)).mono ?_
    rintro e w' ⟨rfl, hq⟩
    exact ⟨_, rfl, rfl, by first | (obtain ⟨nq, rfl⟩ := hq; exact (KB.refl _ _).drewN _) | (subst hq; exact KB.refl _ _) | exact hq, trivial⟩) ?_
  rintro v rfl
  simp only [Act.put, List.setIfInBounds_toArray, List.set_cons_zero, List.set_cons_succ]
  iterate 9 (refine rv_det (by kernel_rfl) rfl (by intro w hG hH; have hc0 := KB.cell hG (fun x => x) (e4); have hc1 := KB.cell hG (fun x => x) (d4); go_simp; first | done | with_reducible rfl) ?_; simp only [Act.put, List.setIfInBounds_toArray, List.set_cons_zero, List.set_cons_succ])
  refine rv_rel (by kernel_rfl) rfl ⟨_, rfl⟩ (by
    intro w hG hH
    refine opVal_call (by go_simp; first | done | exact ⟨⟨rfl, rfl⟩, rfl⟩) ?_
    refine (TP.out _ (HK.out.trans hG)).mono ?_
    rintro e w' ⟨rfl, hq⟩
    exact ⟨_, rfl, rfl, by first | (obtain ⟨nq, rfl⟩ := hq; exact (KB.refl _ _).drewN _) | (subst hq; exact KB.refl _ _) | exact hq, trivial⟩) ?_
  rintro v rfl
  simp only [Act.put, List.setIfInBounds_toArray, List.set_cons_zero, List.set_cons_succ]
  iterate 9 (refine rv_det (by kernel_rfl) rfl (by intro w hG hH; have hc0 := KB.cell hG (fun x => x) (e4); have hc1 := KB.cell hG (fun x => x) (d4); have hc2 := KB.cell hG (fun x => x) (hmT); go_simp; first | done | with_reducible rfl) ?_; simp only [Act.put, List.setIfInBounds_toArray, List.set_cons_zero, List.set_cons_succ])
  refine rv_rel (by kernel_rfl) rfl ⟨_, rfl⟩ (by
    intro w hG hH
    refine opVal_call (by go_simp; first | done | exact ⟨⟨rfl, rfl⟩, rfl⟩) ?_
    refine (KA.out _ (HK.out.trans hG)).mono ?_
    rintro e w' ⟨rfl, hq⟩
    exact ⟨_, rfl, rfl, by first | (obtain ⟨nq, rfl⟩ := hq; exact (KB.refl _ _).drewN _) | (subst hq; exact KB.refl _ _) | exact hq, trivial⟩) ?_
  rintro v rfl
  simp only [Act.put, List.setIfInBounds_toArray, List.set_cons_zero, List.set_cons_succ]
  iterate 3 (refine rv_det (by kernel_rfl) rfl (by intro w hG hH; go_simp; first | done | with_reducible rfl) ?_; simp only [Act.put, List.setIfInBounds_toArray, List.set_cons_zero, List.set_cons_succ])
  refine rv_nil (fun w hG hH => ?_)
  have K := Lib.hid (HK.out.trans hG)
  have e4 := hG.cell (p := ⟨w0.heap.size, 0, none⟩) (fun x => x) e4
  have d4 := hG.cell (p := ⟨w0.heap.size + 1, 4, none⟩) (fun x => x) d4
  have hmB := hG.cell (p := ⟨lb, lo + L1, none⟩) (fun x => x) hmB
  clear hG hH d3 hmT TL TP KA
  obtain ⟨wz, rfl⟩ : ∃ wz, wz = w := ⟨_, rfl⟩
  go_wp2_with fail
  refine wp_region_rv 7 GK (kindW []) (by kernel_rfl) (by kernel_rfl) (kb_trans _) (kb_refl _) (kb_start _ _) (kindW_mono _ (by intro p hp; cases hp)) ?_
  simp only [List.take_succ_cons, List.take_zero, List.drop_succ_cons, List.drop_zero]
  iterate 7 (refine rv_det (by kernel_rfl) rfl (by intro w hG hH; have hc0 := KB.cell hG (fun x => x) (e4); have hc1 := KB.cell hG (fun x => x) (d4); have hc2 := KB.cell hG (fun x => x) (hmB); go_simp; first | done | with_reducible rfl) ?_; simp only [Act.put, List.setIfInBounds_toArray, List.set_cons_zero, List.set_cons_succ])
  refine rv_nil (fun w hG hH => ?_)
  have K2 := Lib.hid (K.out.trans hG)
  clear hG hH e4 d4 hmB
  go_wp2_with fail
  refine (HBL.out _ K2.out).mono ?_
  rintro e w5 ⟨v5, rfl, h5, k5⟩
  have H5 := Lib.hid (And.intro (own_low h5 K2.out.size) (K2.out.trans k5))
  clear h5 k5
  go_wp2_with fail
  go_ret
  exact ⟨_, rfl, H5.out.1, H5.out.2⟩
theorem ritem_any (ts : List Nd) (h : TOk ts) (hok : ∀ x ∈ ts, NdOk x) (b off cap n : Nat) (w : World) (hts : NodesAt w (some ⟨b, off, none⟩) ts) (hT : PT w) (hi : n < ts.length) (hk : (ts.getD n nd0).k = 2 ∨ (ts.getD n nd0).k = 4) :
    Calls Tryz.prog 54 #[.agg #[.slice (some ⟨b, off, none⟩) ts.length cap], .int .i64 n] w (LnEnd w (St5 ts n 0 ByteArray.empty)) := by
  rcases hk with hk | hk
  · exact ritem_struct ts h b off cap n w hts hi hk
  · exact ritem_fn ts h hok b off cap n w hts hT hi hk
end Go.Proofs.YtoophdcagpfmpaaGreatDoor

/- loanwordref05: block, iff. -/
import Derived.Test.YtoophdcagpfmpaaGreatDoorPsC
namespace Go.Proofs.YtoophdcagpfmpaaGreatDoor
open Go.RowKit

theorem own_one (w : World) (x : ByteArray) {B : Nat} (hB : B ≤ w.heap.size) : (w.alloc (.cells #[.string x] 9)).ownsRow B 9 1 (.slice (some ⟨w.heap.size, 0, none⟩) 1 1) 1 [.string x] :=
  ⟨rfl, Or.inr ⟨w.heap.size, 1, #[.string x], rfl, hB, alloc_new _ _, Nat.le_refl _, by decide, rfl, rfl⟩⟩
theorem own_pop {w : World} {B n : Nat} {e : TypeId} {a : Option Addr} {c : Nat} {xs : List Value} {u : Value} (h : w.ownsRow B e 1 (.slice a (n + 1) c) (n + 1) (xs ++ [u])) : w.ownsRow B e 1 (.slice a n c) n xs := by
  obtain ⟨h1, h2⟩ := h
  have hl : xs.length = n := by rw [List.length_append, List.length_singleton] at h1; omega
  rcases h2 with ⟨h2, h3⟩ | ⟨g, cap, cur, hv, hg, hh, hcap, hmx, hsz, hx⟩
  · omega
  · cases hv
    refine ⟨by omega, Or.inr ⟨g, c, cur, rfl, hg, hh, by omega, hmx, hsz, ?_⟩⟩
    have h5 := congrArg (List.take n) hx
    rw [List.take_take, ← hl, List.take_left, hl] at h5
    rw [Nat.mul_one, ← h5]
    congr 1
    omega
/-- 'out = append(out, xs...)': an own slice's elements behind those of another own slice. -/
theorem appL {P : Program} {ops : Array Oper} {rest : List Oper} {o : Oper} {a : Act} {Q : Exit → Act → World → Prop} {w : World} (t e : TypeId) (base : Nat) (ys : List Value) {z : Value} {bytes : Nat}
    (hinfo : (P.info? e).map (fun i => (i.zero, i.size, i.bytes)) = some (some z, 1, bytes)) (ht : P.underlying t = some (.slice e)) (hz : z.cells.size = 1)
    {v : Value} {n : Nat} {xs : List Value} (hown : w.ownsRow base e 1 v n xs) {s x : Operand} {g c m B2 : Nat} (hgd : o.guard = none)
    (ho : o.op = .call { callee := .builtin .append, args := #[s, x], argTypes := #[t, t] }) (hs : a.eval s = v)
    (hx : a.eval x = .slice (some ⟨g, 0, none⟩) m c) (hy : w.ownsRow B2 e 1 (.slice (some ⟨g, 0, none⟩) m c) m ys) (h1 : ∀ u ∈ ys, u.oneCell' = true) (h63 : n + m ≤ maxLen) (hbytes : (n + m) * bytes ≤ 140737488355328) (hbase : base ≤ w.heap.size)
    (h : ∀ v' w', w'.ownsRow base e 1 v' (n + m) (xs ++ ys) → w.grownBy w' v.ownBlock → wpList P ops Q rest (a.put o.dst v') w') : wpList P ops Q (o :: rest) a w := by
  obtain ⟨i, hi, hz0, hz1, hz2⟩ := info_parts hinfo
  refine wpList_append_own w hgd s x t ho base e i z 1 bytes ht hi hz0 hz1 hz2 hz (by decide) v n xs hs hown ⟨g, 0, none⟩ m c ys hx (by rw [hy.1]) ?_ h1 h63 hbytes hbase (fun v' w' h2 h3 _ => h v' w' h2 h3)
  intro j u hj
  obtain ⟨a2, cap, e2, -, -, h3, -⟩ := own_shape hy
  simp only [Value.slice.injEq] at e2
  obtain ⟨rfl, -, -⟩ := e2
  have hlt := (List.getElem?_eq_some_iff.1 hj).1
  have hl := hy.1
  obtain ⟨g2, e3, -, hc⟩ := h3 j (by omega)
  cases e3
  rw [show ((⟨g, 0, none⟩ : Addr).add j) = ⟨g, j, none⟩ by unfold Addr.add; split <;> simp_all, hc, hj]
theorem strs_one {L : List ByteArray} : ∀ u ∈ L.map Value.string, u.oneCell' = true := fun u hu => by
  obtain ⟨x, -, rfl⟩ := List.mem_map.1 hu
  rfl
theorem St_pos {ts : List Nd} (h : TOk ts) {n : Nat} (hn : n < ts.length) (hk : isStmtB (ts.getD n nd0).k = true) (inn : Nat) (P : ByteArray) : 1 ≤ (St5 ts n inn P).length := by
  have hblk : ∀ q, q < ts.length → (ts.getD q nd0).k = 13 → ∀ inn P, 2 ≤ (St5 ts q inn P).length := fun q hq e inn P => by
    rw [St_block h hq e]
    simp only [List.length_append, List.length_singleton]
    omega
  rcases stmt_cases (Or.inl hk) with e | e | e | e | e | e | e | e | e | e | e | e | e
  · unfold isStmtB at hk; rw [e] at hk; cases hk
  · unfold isStmtB at hk; rw [e] at hk; cases hk
  · have := hblk n hn e inn P; omega
  · rw [St_eq h.down hn, stN, e]; exact Nat.le_refl _
  · rw [St_eq h.down hn, stN, e]; exact Nat.le_refl _
  · have hif := h.if_ hn e
    have hl2 : 2 ≤ (ts.getD n nd0).l.length := by rcases hif.2.2 with f | f <;> omega
    have e1 := h.kid hn (i := 1) (by omega)
    have h2 := hblk _ e1.2.1 hif.2.1 inn (P ++ (⟨#[105, 102, 32]⟩ ++ exK ts (ts.getD n nd0) 0 ++ ⟨#[32]⟩))
    rw [St_if h hn e, if_pos (show 1 < (ts.getD n nd0).l.length by omega)]
    split
    · omega
    · rw [List.length_append, List.length_dropLast]; omega
  · have hw := h.while_ hn e
    have e1 := h.kid hn (i := 1) (by omega)
    rw [St_eq h.down hn, stN, e]
    show 1 ≤ (if 1 < (ts.getD n nd0).l.length then _ else []).length
    rw [if_pos (by omega)]
    have := hblk _ e1.2.1 hw.2.2 inn (P ++ (⟨#[119, 104, 105, 108, 101, 32]⟩ ++ exK ts (ts.getD n nd0) 0 ++ ⟨#[32]⟩))
    omega
  · have hw := h.loop hn e
    have e1 := h.kid hn (i := 0) (by omega)
    rw [St_eq h.down hn, stN, e]
    show 1 ≤ (if 0 < (ts.getD n nd0).l.length then _ else []).length
    rw [if_pos (by omega)]
    have := hblk _ e1.2.1 hw.2 inn (P ++ ⟨#[108, 111, 111, 112, 32]⟩)
    omega
  all_goals (rw [St_eq h.down hn, stN, e]; exact Nat.le_refl _)
def RBlk (ts : List Nd) (a : Option Addr) (cap : Nat) (wb : World) (n : Nat) : Prop := ∀ (w : World) (inn : Nat) (head : ByteArray), KB F0 wb w → (ts.getD n nd0).k = 13 → inn ≤ n → head.size ≤ 1000000000 →
  Calls Tryz.prog 79 #[.agg #[.slice a ts.length cap], .int .i64 n, .int .i64 inn, .string head, .string ⟨#[]⟩] w (LnEnd w (St5 ts n inn (blB inn ++ head)))
def RIff (ts : List Nd) (a : Option Addr) (cap : Nat) (wb : World) (n : Nat) : Prop := ∀ (w : World) (inn : Nat) (head : ByteArray), KB F0 wb w → (ts.getD n nd0).k = 16 → inn ≤ n → head.size ≤ 100000000 →
  Calls Tryz.prog 80 #[.agg #[.slice a ts.length cap], .int .i64 n, .int .i64 inn, .string head] w (LnEnd w (St5 ts n inn (blB inn ++ head)))
def RStm (ts : List Nd) (a : Option Addr) (cap : Nat) (wb : World) (n : Nat) : Prop := ∀ (w : World) (inn : Nat), KB F0 wb w → isStmtB (ts.getD n nd0).k = true → inn ≤ n →
  Calls Tryz.prog 56 #[.agg #[.slice a ts.length cap], .int .i64 n, .int .i64 inn] w (LnEnd w (St5 ts n inn (blB inn)))
/-- A slice with an address. -/
def SlV (m : Nat) (v : Value) : Prop := ∃ g c, v = .slice (some ⟨g, 0, none⟩) m c
def SlW (B m : Nat) (xs : List Value) (v : Value) (w : World) : Prop := w.ownsRow B 9 1 v m xs
theorem lasts_sl (B m : Nat) (xs : List Value) : Lasts (SlW B m xs) := fun _ _ _ hG h => own_kb h hG (fun _ _ x => x)
theorem own_sl {w : World} {B m : Nat} {xs : List Value} {v : Value} (h : w.ownsRow B 9 1 v m xs) (hm : 0 < m) : SlV m v := by
  obtain ⟨a, cap, rfl, -, -, h3, -⟩ := own_shape h
  obtain ⟨g, rfl, -⟩ := h3 0 (by omega)
  exact ⟨g, cap, rfl⟩
theorem keep_blk {w w' : World} {B m : Nat} {xs : List Value} {v : Value} {k : Nat} {cs : Array Value} {t : TypeId} (ho : w.ownsRow B 9 1 v m xs) (hg : w.grownBy w' v.ownBlock) (hk : w.heap[k]? = some (.cells cs t (0, 0))) (ht : t ≠ 9) : w'.heap[k]? = some (.cells cs t (0, 0)) := by
  refine (hg.block k (heap_lt hk) (fun e => ?_)).trans hk
  obtain ⟨c1, h1, -⟩ := own_block ho e.symm
  rw [hk] at h1
  simp only [Option.some.injEq, Obj.cells.injEq] at h1
  exact ht h1.2.1
set_option maxRecDepth 100000 in
set_option maxHeartbeats 16000000 in
theorem rblock_step (ts : List Nd) (h : TOk ts) (a : Option Addr) (cap : Nat) (wb : World) (n : Nat) (hts : NodesAt wb a ts) (hi : n < ts.length) (ih : ∀ q, n < q → q < ts.length → RStm ts a cap wb q) : RBlk ts a cap wb n := by
  intro w inn head hb hk13 hin hhd
  obtain ⟨w0, rfl⟩ : ∃ w0, w0 = w := ⟨_, rfl⟩
  have hlen := h.len
  have hsb := St_block h hi hk13 inn (blB inn ++ head)
  rw [hsb]
  have hwt := wK_sum h.good hi
  have hwp := wt1_pos h.good hi
  have hkids : ∀ i, i < (ts.getD n nd0).l.length → ∃ q : Nat, (ts.getD n nd0).l.getD i 0 = (q : Int) ∧ n < q ∧ 1 ≤ (St5 ts q (inn + 1) (blB (inn + 1))).length ∧ (St5 ts q (inn + 1) (blB (inn + 1))).length ≤ 2 * wK ts (ts.getD n nd0) i ∧
      (fun i => if i < (ts.getD n nd0).l.length then St5 ts (kid (ts.getD n nd0) i) (inn + 1) (blB (inn + 1)) else []) i = St5 ts q (inn + 1) (blB (inn + 1)) ∧
      ∀ W, KB F0 w0 W → Calls Tryz.prog 56 #[.agg #[.slice a ts.length cap], .int .i64 q, .int .i64 ((inn : Int) + 1)] W (LnEnd W (St5 ts q (inn + 1) (blB (inn + 1)))) := fun i hi2 => by
    have e2 := h.kid hi hi2
    exact ⟨_, e2.2.2, e2.1, St_pos h e2.2.1 (h.block hi hk13 i hi2) _ _, by rw [wK_at hi2]; exact St_len h e2.2.1 _ _, if_pos hi2, fun W hk => ih _ e2.1 e2.2.1 W (inn + 1) (hb.trans hk) (h.block hi hk13 i hi2) (by omega)⟩
  obtain ⟨b, off, rfl, hx⟩ := hts n hi
  generalize (fun i => if i < (ts.getD n nd0).l.length then St5 ts (kid (ts.getD n nd0) i) (inn + 1) (blB (inn + 1)) else []) = G at hkids ⊢
  generalize hWK : wK ts (ts.getD n nd0) = WK at hkids hwt
  generalize ts.getD n nd0 = x at hx hkids hk13 ⊢
  obtain ⟨la, lc, hl4, hints, hlc, hlm⟩ := hx.l
  unfold maxLen at hlm
  obtain ⟨k, at_, m, s, l⟩ := x
  simp only at hk13 hkids hl4 hints hlc ⊢
  obtain rfl := hk13
  obtain ⟨N, hN⟩ : ∃ N, N = ts.length := ⟨_, rfl⟩
  rw [← hN] at hi hlen hkids hwp ⊢
  obtain ⟨M, hM⟩ : ∃ M, M = l.length := ⟨_, rfl⟩
  rw [← hM] at hl4 hlc hkids ⊢
  obtain ⟨A1, hA1⟩ : ∃ Z_ : ByteArray, blB inn ++ head = Z_ := ⟨_, rfl⟩
  obtain ⟨A2, hA2⟩ : ∃ Z_ : ByteArray, A1 ++ ⟨#[123]⟩ = Z_ := ⟨_, rfl⟩
  obtain ⟨A3, hA3⟩ : ∃ Z_ : ByteArray, blB inn ++ ⟨#[125]⟩ = Z_ := ⟨_, rfl⟩
  have hbz := blB_size inn
  have sA1 : A1.size = (blB inn).size + head.size := by rw [← hA1, ByteArray.size_append]
  have z1 : ¬ (9223372036854775807 < (blB inn).size + head.size) := by omega
  have z2 : ¬ (9223372036854775807 < A1.size + 1) := by omega
  have z3 : ¬ (9223372036854775807 < (blB inn).size + 1) := by omega
  have z4 : ¬ (9223372036854775807 < A3.size) := by
    have : A3.size = (blB inn).size + 1 := by rw [← hA3, ByteArray.size_append]; rfl
    omega
  have hA4 : A3 ++ ⟨#[]⟩ = A3 := ByteArray.append_empty
  rw [hA1, hA2, hA3]
  have BK := Lib.hid (fun (W : World) => blanks_any inn (by omega) W)
  generalize blB inn = BL at hA1 hA3 z1 z3 BK
  obtain ⟨W1, hW1⟩ : ∃ W1, W1 = w0.alloc (.cells #[.slice (some ⟨b, off, none⟩) N cap] 24) := ⟨_, rfl⟩
  obtain ⟨W2, hW2⟩ : ∃ W2, W2 = W1.alloc (.cells #[.string A2] 9) := ⟨_, rfl⟩
  obtain ⟨W3, hW3⟩ : ∃ W3, W3 = W2.alloc (.cells #[.int .u8 13, .int .i64 at_, .int .i64 m, .string s, .slice la M lc] 44) := ⟨_, rfl⟩
  have k1 : KB F0 w0 W1 := by rw [hW1]; exact (KB.refl _ _).alloc _
  have k12 : KB F0 W1 W2 := by rw [hW2]; exact (KB.refl _ _).alloc _
  have k23 : KB F0 W2 W3 := by rw [hW3]; exact (KB.refl _ _).alloc _
  have hs1 : W1.heap.size = w0.heap.size + 1 := by rw [hW1]; simp
  have hs2 : W2.heap.size = w0.heap.size + 2 := by rw [hW2]; simp [hs1]
  have hbT : W3.heap[w0.heap.size]? = some (.cells #[.slice (some ⟨b, off, none⟩) N cap] 24 (0, 0)) := (k12.trans k23).heap (fun x => x) (by rw [hW1]; exact alloc_new _ _)
  have hbX : W3.heap[w0.heap.size + 2]? = some (.cells #[.int .u8 13, .int .i64 at_, .int .i64 m, .string s, .slice la M lc] 44 (0, 0)) := by rw [hW3, ← hs2]; exact alloc_new _ _
  have ho : W3.ownsRow w0.heap.size 9 1 (.slice (some ⟨w0.heap.size + 1, 0, none⟩) 1 1) 1 [.string A2] := by
    have := own_one W1 A2 (B := w0.heap.size) k1.size
    rw [hs1, ← hW2] at this
    exact own_kb this k23 (fun _ _ x => x)
  have kw := hb.trans (k1.trans k12)
  have c0 : W2.cell? ⟨b, off + n * 5, none⟩ = some (.int .u8 13) := kw.cell (p := ⟨b, off + n * 5, none⟩) (fun x => x) hx.k
  have c1 : W2.cell? ⟨b, off + n * 5 + 1, none⟩ = some (.int .i64 at_) := kw.cell (p := ⟨b, off + n * 5 + 1, none⟩) (fun x => x) hx.at_
  have c2 : W2.cell? ⟨b, off + n * 5 + 2, none⟩ = some (.int .i64 m) := kw.cell (p := ⟨b, off + n * 5 + 2, none⟩) (fun x => x) hx.n
  have c3 : W2.cell? ⟨b, off + n * 5 + 3, none⟩ = some (.string s) := kw.cell (p := ⟨b, off + n * 5 + 3, none⟩) (fun x => x) hx.s
  have c4 := kw.cell (p := ⟨b, off + n * 5 + 4, none⟩) (fun x => x) hl4
  have HI := Lib.hid (fun i (hi : i < M) => (hb.cell (p := ⟨_, _, none⟩) (fun x => x) (hints i (by rw [← hM]; exact hi)).choose_spec.choose_spec.2 : _))
  have HII := Lib.hid (fun i (hi : i < M) => hints i (by rw [← hM]; exact hi))
  have HKD := Lib.hid hkids
  have HWT := Lib.hid hwt
  have k3 := (k1.trans k12).trans k23
  have H0 : Hid (W3.ownsRow w0.heap.size 9 1 (.slice (some ⟨w0.heap.size + 1, 0, none⟩) 1 1) ([A2] ++ catK G 0).length (([A2] ++ catK G 0).map Value.string) ∧ KB F0 w0 W3 ∧ W3.heap[w0.heap.size]? = some (.cells #[.slice (some ⟨b, off, none⟩) N cap] 24 (0, 0)) ∧ W3.heap[w0.heap.size + 2]? = some (.cells #[.int .u8 13, .int .i64 at_, .int .i64 m, .string s, .slice la M lc] 44 (0, 0))) := Lib.hid ⟨ho, k3, hbT, hbX⟩
  have hiN : (n : Int) < (N : Int) := by omega
  have HB := Lib.hid hb
  have HW := Lib.hid (And.intro hW3 (And.intro hW2 hW1))
  have HQ : Hid (∀ k, k ≤ M → (catK G k).length ≤ 2 * sumK WK k) := Lib.hid (fun k hk => catK_len (fun i hi => by
    obtain ⟨q2, -, -, -, h4, h5, -⟩ := hkids i (by omega)
    rw [h5]; exact h4))
  have HNN : Hid (wt1 ts n ≤ 16384) := Lib.hid (by omega)
  have hii : inn ≤ 16384 := by omega
  rw [hW2, hW1] at c0 c1 c2 c3 c4
  clear hkids hwt hb hints hx hWK hN hM ih h hsb hts hl4 hhd hin k1 k12 k23 hs1 hbT hbX ho kw k3 sA1 hbz hlen hi hwp HI
  go_enter Tryz.func79, Tryz.ntmps79
  go_wp2_with fail
  refine (BK.out _).mono ?_
  rintro e w1 ⟨rfl, rfl⟩
  go_wp2_with fail
  rw [← hW1, ← hW2, ← hW3]
  clear c0 c1 c2 c3 c4 hW1 hW2 hW3
  go_loopw [11, 13] (fun ov kv wr => ∃ k : Nat, k ≤ M ∧ kv = .int .i64 (k : Nat) ∧ Hid (wr.ownsRow w0.heap.size 9 1 ov ([A2] ++ catK G k).length (([A2] ++ catK G k).map Value.string) ∧ KB F0 w0 wr ∧ wr.heap[w0.heap.size]? = some (.cells #[.slice (some ⟨b, off, none⟩) N cap] 24 (0, 0)) ∧ wr.heap[w0.heap.size + 1 + 1]? = some (.cells #[.int .u8 13, .int .i64 at_, .int .i64 m, .string s, .slice la M lc] 44 (0, 0)))) (fun _ kv _ => M - (intOf kv).toNat)
  case atStart => exact ⟨0, by omega, rfl, H0⟩
  case round =>
    obtain ⟨k, hk, rfl, hst⟩ := hrel
    clear H0
    obtain ⟨a1, cap1, rfl, -, -, -, -⟩ := own_shape hst.out.1
    obtain ⟨NL, hNL⟩ : ∃ NL, NL = ([A2] ++ catK G k).length := ⟨_, rfl⟩
    rw [← hNL] at hst ⊢
    have y4 : wr.cell? ⟨w0.heap.size + 1 + 1, 4, none⟩ = some (.slice la M lc) := blk_cell hst.out.2.2.2 4
    have eT : wr.cell? ⟨w0.heap.size, 0, none⟩ = some (.slice (some ⟨b, off, none⟩) N cap) := blk_cell hst.out.2.2.1 0
    by_cases hlt : k < M
    · have hkM : (k : Int) < (M : Int) := by omega
      obtain ⟨lb, lo, rfl, hce⟩ := HII.out k hlt
      obtain ⟨q, hq, hnq, h1q, hlq, hG, hS⟩ := HKD.out k hlt
      rw [hq] at hce
      have hcd := (HB.out.trans hst.out.2.1).cell (p := ⟨lb, lo + k, none⟩) (fun x => x) hce
      have lt4 : lb < wr.heap.size := heap_ltc hcd
      have C1 := Lib.hid (fun (W : World) (hk : KB F0 wr W) => hS W (hst.out.2.1.trans hk))
      have hgk : catK G (k + 1) = catK G k ++ G k := rfl
      rw [hG] at hgk
      have hcl := HQ.out k hk
      have hcl2 := HQ.out (k + 1) (by omega)
      have hw1 := HWT.out (k + 1)
      have hwn := HNN.out
      generalize St5 ts q (inn + 1) (blB (inn + 1)) = L at C1 hgk h1q
      have hle : ([A2] ++ catK G k).length + L.length ≤ 40000 := by
        rw [hgk, List.length_append] at hcl2
        simp only [List.length_append, List.length_singleton]
        omega
      rw [← hNL] at hle
      obtain ⟨ML, hML⟩ : ∃ ML, ML = L.length := ⟨_, rfl⟩
      have C1 : Hid (∀ W, KB F0 wr W → Calls Tryz.prog 56 #[.agg #[.slice (some ⟨b, off, none⟩) N cap], .int .i64 q, .int .i64 ((inn : Int) + 1)] W fun e w' => ∃ v, e = .returned v ∧ w'.ownsRow W.heap.size 9 1 v ML (L.map Value.string) ∧ KB F0 W w') := Lib.hid (by rw [hML]; exact C1.out)
      rw [← hML] at h1q hle
      have HGK := Lib.hid hgk
      have HLE := Lib.hid (And.intro h1q (And.intro hle hML))
      have HNL := Lib.hid hNL
      clear hNL hML
      clear hce hq hnq hlq hG hS hcl hcl2 hw1 hwn hgk h1q hle
      have hwr : IntKind.i64.wrap ((inn : Int) + 1) = (inn : Int) + 1 := w64 (by omega) (by omega)
      go_wp2_with fail
      refine wp_region_rv 10 GK (kindW [(9, (SlV ML), (SlW w0.heap.size ML (L.map Value.string)))]) (by kernel_rfl) (by kernel_rfl) (kb_trans _) (kb_refl _) (kb_start _ _) (kindW_mono _ (by intro p hp; simp only [List.mem_cons, List.not_mem_nil, or_false] at hp; (subst hp; exact lasts_sl _ _ _))) ?_
      simp only [List.take_succ_cons, List.take_zero, List.drop_succ_cons, List.drop_zero]
      iterate 9 (refine rv_det (by kernel_rfl) rfl (by intro w hG hH; have hc0 := KB.cell hG (fun x => x) (eT); have hc1 := KB.cell hG (fun x => x) (y4); have hc2 := KB.cell hG (fun x => x) (hcd); go_simp; first | done | with_reducible rfl) ?_; simp only [Act.put, List.setIfInBounds_toArray, List.set_cons_zero, List.set_cons_succ])
      refine rv_rel (by kernel_rfl) rfl ⟨.slice (some ⟨0, 0, none⟩) ML 0, 0, 0, rfl⟩ ?hcallR ?hrestR
      case hcallR =>
        intro w hG hH
        clear hH
        refine opVal_call (by go_simp; first | done | exact ⟨⟨rfl, rfl⟩, rfl⟩) ?_
        refine (C1.out w hG).mono ?_
        rintro e w' ⟨v, rfl, hown, hkb⟩
        have h1 : SlV ML v := own_sl hown HLE.out.1
        have h2 : SlW w0.heap.size ML (L.map Value.string) v w' := own_low hown (Nat.le_trans hst.out.2.1.size hG.size)
        clear hown
        refine ⟨v, rfl, h1, hkb, ?_⟩
        exact h2
      case hrestR =>
       rintro v ⟨gL, cL, rfl⟩
       simp only [Act.put, List.setIfInBounds_toArray, List.set_cons_zero, List.set_cons_succ]
       refine rv_nil (fun w hG hH => ?_)
       have hL := hH (9, _) List.mem_cons_self
       clear hH
       have HL : Hid (w.ownsRow w0.heap.size 9 1 (.slice (some ⟨gL, 0, none⟩) ML cL) ML (L.map Value.string)) := Lib.hid hL
       have H1 := Lib.hid (And.intro (own_kb hst.out.1 hG (fun _ _ x => x)) (And.intro (hst.out.2.1.trans hG) (And.intro (hG.heap (fun x => x) hst.out.2.2.1) (hG.heap (fun x => x) hst.out.2.2.2))))
       clear hG hst y4 eT hcd hL C1 lt4 hwr
       go_wp2_with (at_builtin; refine Stopped.out ?_)
       refine ⟨?_⟩
       refine appL 33 9 w0.heap.size (L.map Value.string) Tryz.infoStr5 Tryz.underlying33 (by decide) H1.out.1 rfl rfl rfl rfl HL.out strs_one (by have := HLE.out.2.1; unfold maxLen; omega) (by have := HLE.out.2.1; omega) H1.out.2.1.size ?_
       intro v2 w2 hown2 hgr2
       have k2 : KB F0 w0 w2 := H1.out.2.1.grown hgr2 (own_ge H1.out.1 (Nat.le_refl _))
       have hT2 := keep_blk H1.out.1 hgr2 H1.out.2.2.1 (by decide)
       have hX2 := keep_blk H1.out.1 hgr2 H1.out.2.2.2 (by decide)
       have hlen2 : NL + ML = ([A2] ++ catK G (k + 1)).length := by
         rw [HGK.out, HNL.out, HLE.out.2.2]; simp only [List.length_append, List.length_singleton]; omega
       rw [← List.map_append, List.append_assoc, ← HGK.out, hlen2] at hown2
       have H2 := Lib.hid (And.intro hown2 (And.intro k2 (And.intro hT2 hX2)))
       clear hown2 k2 hT2 hX2 hlen2 hgr2
       go_wp2_with fail
       go_roundw
       case rel => exact ⟨k + 1, by omega, by go_num, H2⟩
       case measure => simp [intOf]; omega
    · obtain rfl : k = M := by omega
      have hcl := HQ.out k (Nat.le_refl _)
      have hw1 := HWT.out k
      have hwn := HNN.out
      have hNZ : NL ≤ 40000 := by rw [hNL]; simp only [List.length_append, List.length_singleton]; omega
      have HNL := Lib.hid hNL
      clear hcl hw1 hwn hNL eT
      go_wp2_with fail
      refine (BK.out _).mono ?_
      rintro e w4 ⟨rfl, rfl⟩
      go_wp2_with (at_builtin; refine Stopped.out ?_)
      refine ⟨?_⟩
      have ka := (KB.refl F0 wr).alloc (.cells #[.string A3] 9)
      have ho := own_kb hst.out.1 ka (fun _ _ x => x)
      refine app1 33 9 w0.heap.size (.string A3) Tryz.infoStr5 Tryz.underlying33 (by decide) ho rfl rfl rfl rfl (blk_cell (alloc_new _ _) 0) rfl (by unfold maxLen; omega) (by omega) (hst.out.2.1.trans ka).size ?_
      intro v2 w2 hown2 hgr2
      have k2 : KB F0 w0 w2 := (hst.out.2.1.trans ka).grown hgr2 (own_ge ho (Nat.le_refl _))
      have hlen2 : NL + 1 = ([A2] ++ catK G k ++ [A3]).length := by rw [HNL.out]; simp only [List.length_append, List.length_singleton]
      rw [show [Value.string A3] = [A3].map Value.string from rfl, ← List.map_append, hlen2] at hown2
      have H2 := Lib.hid (And.intro hown2 k2)
      clear ka ho hown2 hgr2 k2 hlen2 y4
      go_wp2_with fail
      go_ret
      exact ⟨_, rfl, H2.out.1, H2.out.2⟩
end Go.Proofs.YtoophdcagpfmpaaGreatDoor

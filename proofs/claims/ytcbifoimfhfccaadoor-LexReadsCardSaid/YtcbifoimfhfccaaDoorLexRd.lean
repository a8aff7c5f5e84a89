/- LexReads, walked: the law returns true for every text and number. -/
import Derived.Test.YtcbifoimfhfccaaDoorLexRf
namespace Go.Proofs.YtcbifoimfhfccaaDoor
open Go.RowKit Go.Shelf
attribute [local go_sem] Oper.semAt_some

theorem ToksAt.lt {w : World} {a : Option Addr} {ts : List Tk} (h : ToksAt w a ts) {g off : Nat} (h0 : 0 < ts.length) (ha : a = some ⟨g, off, none⟩) : g < w.heap.size := by
  obtain ⟨b, o, hb, hx⟩ := h 0 h0
  rw [ha] at hb
  simp only [Option.some.injEq, Addr.mk.injEq, and_true] at hb
  obtain ⟨rfl, rfl⟩ := hb
  exact heap_ltc hx.k
theorem OwnTk.blk {w : World} {B : Nat} {v : Value} {ts : List Tk} (h : OwnTk w B v ts) : ∃ g a c, v = .slice a ts.length c ∧ B ≤ g ∧ ts.length ≤ c ∧ c ≤ maxLen ∧ (0 < ts.length → a = some ⟨g, 0, none⟩ ∧ g < w.heap.size ∧ ∃ cs, w.heap[g]? = some (.cells cs 32 (0, 0)) ∧ ts.length * 4 ≤ cs.size) := by
  obtain ⟨h1, h2⟩ := h
  rcases h2 with ⟨rfl, hn⟩ | ⟨g, cap, cur, rfl, hb, hh, hr⟩
  · have h0 : ts.length = 0 := by first | exact hn | exact hn.1 | (have := hn; simp_all)
    exact ⟨B, none, 0, by rw [h0], Nat.le_refl _, by omega, by decide, fun h => by omega⟩
  · obtain ⟨hn, hm, hcs, ht⟩ := hr
    exact ⟨g, some ⟨g, 0, none⟩, cap, rfl, hb, hn, hm, fun _ => ⟨rfl, heap_lt hh, cur, hh, by omega⟩⟩
theorem getD_pre {ts pre : List Tk} {y : Tk} (h : pre ++ [y] <+: ts) : ts.getD pre.length tk0 = y := by
  obtain ⟨t, rfl⟩ := h
  simp [List.getD_eq_getElem?_getD]
theorem KB.putObjF {w W : World} (h : KB F0 w W) (D : Nat) (o : Obj) (hD : w.heap.size ≤ D) : KB F0 w (W.putObj D o) := h.grown (grownBy_putObj' W D o) (fun j e hj => by cases e; omega)
/-- The law on a range over a function whose assignment lays its variable in new memory. -/
theorem rangeFuncB {F : Fence} {n : Nat} {P : Program} {α : Type} {g : Operand} {ps : Array Tmp} {assign body : Code} {Q : Exit → Act → World → Prop} {a : Act} {w : World}
    (hro : F.round = none) (h1 : 1 ≤ n) {gf : Nat} {lb : Array Value} (hg : a.eval g = .func (.func gf) #[] lb) (hFg : F.fn gf) (eg : ∀ args w, (callFunc gf args).run P w = .ok (.enter gf args) w)
    {encs : α → Array Value} {Kp : World → World → Prop} {S Sp : List α → Prop} {N : Nat} {w0 : World} (hseq : SeqStopsK F (n - 1) P gf lb encs Kp S Sp N w0)
    (hKt : ∀ {A B C : World}, Kp A B → Kp B C → Kp A C) (hKb : ∀ (W : World) (l : Nat) (o o' : Obj), w.heap.size ≤ l → W.heap[l]? = some o → o.isCells = false → o.isWalk = false → Kp W (W.putObj l o')) (hb0 : Below w0.heap.size w0 w) (hps : ∀ x, (encs x).size = ps.size)
    (I : List α → World → Prop) (Ix : Code → List α → World → Prop) (hI : OwnFrom w.heap.size I) (hIx : ∀ c, OwnFrom w.heap.size (Ix c)) (h0 : I [] w)
    (Tb : α → Nat → World → Prop) (hTb : ∀ x tb, OwnFrom w.heap.size (fun (_ : Unit) W => Tb x tb W)) (hKk : ∀ W W', KB F0 W W' → Kp W W') (hIk : ∀ pre W W', I pre W → KB F0 W W' → I pre W')
    (h : ∃ a₁ : α → Nat → Act, (∀ (l : Nat) (x : α) (W : World) (tb : Nat) (K : Act → World → Prop), tb = W.heap.size → (∀ W', KB F0 W W' → KeepsOthers W W' → Tb x tb W' → K (a₁ x tb) W') →
        assign.wpIn (F.inRound l) (n - 1 - 1) P (Exit.then K (fun _ _ _ => False)) { tmps := (ps.zip (encs x)).foldl (fun t (p, v) => t.setIfInBounds p v) a.tmps, defers := [] } W) ∧
      (∀ (l : Nat) (pre : List α) (x : α) (tb : Nat) (W : World), I pre W → Tb x tb W → pre.length < N → body.wpIn (F.inRound l) (n - 1 - 1) P (ownPostK Kp I Ix (pre ++ [x]) W) (a₁ x tb) W))
    (hdone : ∀ (D : Nat) (xs : List α) (W : World), w.heap.size ≤ D → S xs → I xs W → W.heap[D]? = some (.deferred (some [])) → Q .normal { a with defers := { target := .collected D, args := #[] } :: a.defers } W)
    (hstop : ∀ (D : Nat) (c : Code) (pre : List α) (W : World), w.heap.size ≤ D → Sp pre → Ix c pre W → W.heap[D]? = some (.deferred (some [])) → c.wpIn F n P Q { a with defers := { target := .collected D, args := #[] } :: a.defers } W) :
    (Code.rangeFunc g ps assign body).wpIn F n P Q a w := by
  obtain ⟨a₁, ha, hb⟩ := h
  exact wpIn_rangeFunc_ownH hro h1 hg hFg eg hseq (fun h k => hKt h k) hKb hb0 hps I Ix hI hIx h0 (fun x a' W => ∃ tb, a' = a₁ x tb ∧ Tb x tb W)
    (fun x a' s A B row ⟨tb, e, ht⟩ hg hr => ⟨tb, e, hTb x tb s A B row ht hg hr⟩)
    (fun l pre x W K hi hK => ha l x W _ K rfl (fun W' hk ho ht => hK _ _ (ho.from _) (hKk _ _ hk) (hIk _ _ _ hi hk) ⟨_, rfl, ht⟩))
    (fun l pre x a' W _ _ hi ⟨tb, e, ht⟩ hl => by subst e; exact wpIn_mono (hb l pre x tb W hi ht hl) ownPostG_of_ownPostK) hdone hstop
theorem set0_cell {w : World} {b : Nat} {v v' : Value} {t : TypeId} (h : w.heap[b]? = some (.cells #[v] t (0, 0))) : (w.setCell ⟨b, 0, none⟩ v').heap[b]? = some (.cells #[v'] t (0, 0)) := setCell_blk (i := 0) h v'

set_option maxRecDepth 100000 in
set_option maxHeartbeats 16000000 in
theorem reads_big (s : ByteArray) (few : Int) (hs : 16384 < s.size) (w : World) (hT : Tab w) : Calls Tryd.prog 3 #[.string s, .int .i64 few] w fun e w' => e = .returned (.bool true) ∧ KB F0 w w' := by
  obtain ⟨w0, rfl⟩ : ∃ w0, w0 = w := ⟨_, rfl⟩
  have AW := Lib.hid (fun (W : World) (hk : KB F0 w0 W) => awake_any W (hT.kb hk))
  have d1 : decide ((16384 : Int) < (s.size : Int)) = true := decide_eq_true (by omega)
  obtain ⟨W1, hW1⟩ : ∃ W1, W1 = (w0.alloc (.cells #[.int .i64 few] 3)).alloc (.cells #[.bool false] 4) := ⟨_, rfl⟩
  have k1 : KB F0 w0 W1 := by rw [hW1]; exact ((KB.refl _ _).alloc _).alloc _
  have hs0 : (w0.alloc (.cells #[.int .i64 few] 3)).heap.size = w0.heap.size + 1 := by simp
  have h1h : W1.heap[w0.heap.size + 1]? = some (.cells #[.bool false] 4 (0, 0)) := by rw [hW1, ← hs0]; exact alloc_new _ _
  have H1 := Lib.hid (And.intro k1 h1h)
  have HW1 := Lib.hid hW1
  clear hT hW1 k1 h1h hs
  go_enter Tryd.func3, Tryd.ntmps3
  go_wp2_with fail
  rw [← HW1.out]
  refine (AW.out W1 H1.out.1).mono ?_
  rintro e w2 ⟨rfl, k2⟩
  have h2 := k2.heap (fun x => x) H1.out.2
  have cQ : w2.cell? ⟨w0.heap.size + 1, 0, none⟩ = some (.bool false) := blk_cell h2 0
  have fQ : w2.frozen? ⟨w0.heap.size + 1, 0, none⟩ = false := blk_frozen h2 0
  have K := Lib.hid ((H1.out.1.trans k2).setCell (p := ⟨w0.heap.size + 1, 0, none⟩) (fun hh => by have h1 : w0.heap.size + 1 < w0.heap.size := hh; omega) (.bool true))
  clear k2 h2
  go_wp2_with fail
  have hc := World.cell?_setCell_same' w2 ⟨w0.heap.size + 1, 0, none⟩ (.bool true) (by rw [cQ]; rfl)
  exact bodyPost_ret (results_cell rfl _ rfl hc) rfl ⟨rfl, K.out⟩

set_option maxRecDepth 100000 in
set_option maxHeartbeats 32000000 in
theorem reads_small (s : ByteArray) (few : Int) (hs : s.size ≤ 16384) (w : World) (hT : Tab w) : Calls Tryd.prog 3 #[.string s, .int .i64 few] w fun e w' => e = .returned (.bool true) ∧ KB F0 w w' := by
  obtain ⟨w0, rfl⟩ : ∃ w0, w0 = w := ⟨_, rfl⟩
  have AW := Lib.hid (fun (W : World) (hk : KB F0 w0 W) => awake_any W (hT.kb hk))
  have LX := Lib.hid (fun (W : World) (hk : KB F0 w0 W) => lex_any s (by omega) W (hT.kb hk))
  have RX := Lib.hid (fun (W : World) => rlex_any s (by omega) W)
  have EC := Lib.hid (fun (W : World) (hk : KB F0 w0 W) => each_any s (by omega) W (hT.kb hk))
  have hlen := (lexS_len s).2
  generalize (lexS s).1 = ts at LX RX EC hlen
  generalize (lexS s).2.1 = p at LX RX
  generalize (lexS s).2.2 = no at LX RX
  have SM := Lib.hid (fun (a b : Option Addr) (c d : Nat) (W : World) (h1 : ToksAt W a ts) (h2 : ToksAt W b ts) => same_true ts (by omega) a b c d W h1 h2)
  obtain ⟨N, hN⟩ : ∃ N, N = ts.length := ⟨_, rfl⟩
  have hNb : N ≤ 16384 := by omega
  have d1 : decide ((16384 : Int) < (s.size : Int)) = false := decide_eq_false (by omega)
  obtain ⟨W1, hW1⟩ : ∃ W1, W1 = (w0.alloc (.cells #[.int .i64 few] 3)).alloc (.cells #[.bool false] 4) := ⟨_, rfl⟩
  have k1 : KB F0 w0 W1 := by rw [hW1]; exact ((KB.refl _ _).alloc _).alloc _
  have hs0 : (w0.alloc (.cells #[.int .i64 few] 3)).heap.size = w0.heap.size + 1 := by simp
  have h0h : W1.heap[w0.heap.size]? = some (.cells #[.int .i64 few] 3 (0, 0)) := by rw [hW1]; exact ((KB.refl F0 _).alloc _).heap (fun x => x) (alloc_new _ _)
  have h1h : W1.heap[w0.heap.size + 1]? = some (.cells #[.bool false] 4 (0, 0)) := by rw [hW1, ← hs0]; exact alloc_new _ _
  have H1 := Lib.hid (And.intro k1 (And.intro h0h h1h))
  have HW1 := Lib.hid hW1
  rw [← hN] at SM
  have HN := Lib.hid hN
  clear hT hW1 k1 h0h h1h hs hN hlen hs0
  refine (callsIn_wide (n := 20)).1 ?_
  refine callsIn_of_wp_marks Tryd.func3 rfl trivial ?_ rfl
  simp only [Tryd.ntmps3, List.size_toArray, List.length_cons, List.length_nil, Nat.reduceAdd, Nat.reduceSub, Array.replicate_succ, Array.replicate_zero, List.push_toArray, List.append_toArray, List.nil_append, List.cons_append]
  gi_wp2_with fail
  rw [← HW1.out]
  refine callW (LX.out W1 H1.out.1) ?_
  rintro e W2 ⟨v1, rfl, o1, k2⟩
  obtain ⟨g1, a1, c1, rfl, hg1, hc1, hm1, hx1⟩ := o1.blk
  obtain ⟨a1', c1', he, -, t1⟩ := o1.toks
  simp only [Value.slice.injEq] at he
  obtain ⟨rfl, -, rfl⟩ := he
  rw [← HN.out] at hx1 hc1 ⊢
  have K2 := Lib.hid (And.intro (H1.out.1.trans k2) (And.intro k2 (And.intro t1 (And.intro hx1 hg1))))
  unfold maxLen at hm1
  clear k2 t1 hx1 hg1 o1
  gi_wp2_with fail
  refine callW (LX.out W2 K2.out.1) ?_
  rintro e W3 ⟨v2, rfl, o2, k3⟩
  obtain ⟨g2, a2, c2, rfl, hg2, hc2, hm2, hx2⟩ := o2.blk
  obtain ⟨a2', c2', he, -, t2⟩ := o2.toks
  simp only [Value.slice.injEq] at he
  obtain ⟨rfl, -, rfl⟩ := he
  rw [← HN.out] at hx2 hc2 ⊢
  have K3 := Lib.hid (And.intro (K2.out.1.trans k3) (And.intro k3 (And.intro t2 (And.intro hx2 hg2))))
  clear k3 t2 hx2 hg2 o2 hc2 hm2
  gi_wp2_with fail
  refine callW (RX.out W3) ?_
  rintro e W4 ⟨v3, rfl, o3, k4⟩
  obtain ⟨g3, va, vc, rfl, hg3, hc3, hm3, hx3⟩ := o3.blk
  obtain ⟨a3', c3', he, -, t3⟩ := o3.toks
  simp only [Value.slice.injEq] at he
  obtain ⟨rfl, -, rfl⟩ := he
  rw [← HN.out] at hx3 hc3 ⊢
  obtain ⟨WB, hWB⟩ : ∃ WB, WB = W4.heap.size := ⟨_, rfl⟩
  obtain ⟨W5, hW5⟩ : ∃ W5, W5 = W4.alloc (.cells #[.slice va N vc] 23) := ⟨_, rfl⟩
  have kV : KB F0 W4 W5 := by rw [hW5]; exact (KB.refl _ _).alloc _
  have hB5 : W5.heap[WB]? = some (.cells #[.slice va N vc] 23 (0, 0)) := by rw [hWB, hW5]; exact alloc_new _ _
  have k45 := k4.trans kV
  have K5 := Lib.hid (And.intro (K3.out.1.trans k45) (And.intro hB5 (And.intro (t3.kbF kV) (And.intro (K2.out.2.2.1.kbF (K3.out.2.1.trans k45)) (And.intro (K3.out.2.2.1.kbF k45) (And.intro (K2.out.2.1.trans (K3.out.2.1.trans k45)) (K3.out.2.1.trans k45)))))))
  have w5c : W5.cell? ⟨WB, 0, none⟩ = some (.slice va N vc) := blk_cell hB5 0
  have HG3 := Lib.hid (fun (h : 0 < N) => (hx3 h).1)
  unfold maxLen at hm3
  have HG := Lib.hid (And.intro hg3 (And.intro (fun (h : 0 < N) => (hx3 h).2.1) k4.size))
  clear k4 t3 hx3 hg3 o3 kV hB5 k45
  gi_wp2_with fail
  rw [← hWB, ← hW5]
  have HW5 := Lib.hid (And.intro hWB hW5)
  clear hWB hW5
  refine callW (SM.out a1 va c1 vc W5 K5.out.2.2.2.1 K5.out.2.2.1) ?_
  rintro e W6 ⟨rfl, k6⟩
  have hN1 : 0 < N → W6.heap.size = W6.heap.size := fun _ => rfl
  have K6 := Lib.hid (And.intro (K5.out.1.trans k6) (And.intro k6 (K5.out.2.2.2.2.2.1.trans k6)))
  have HS0 := Lib.hid (fun (h : 0 < N) => (K2.out.2.2.2.1 h))
  have hst : Hid (0 < N → ∃ cs : Array Value, W6.heap[g1]? = some (.cells cs 32 (0, 0)) ∧ N * 4 ≤ cs.size) := Lib.hid (fun h => by
    obtain ⟨-, -, cs, q1, q2⟩ := K2.out.2.2.2.1 h
    exact ⟨cs, (K5.out.2.2.2.2.2.2.trans k6).heap (fun x => x) q1, q2⟩)
  clear k6 hN1 w5c
  gi_wp2_with fail
  gi_loopw [14] (fun iv wr => ∃ i : Nat, i ≤ N ∧ iv = .int .i64 i ∧ Hid (0 < N → ∃ cs : Array Value, wr.heap[g1]? = some (.cells cs 32 (0, 0)) ∧ N * 4 ≤ cs.size) ∧ Hid (KB (fun k => 0 < N ∧ k = g1) W6 wr)) (fun iv _ => N - (intOf iv).toNat)
  case atStart => exact ⟨0, by omega, rfl, hst, Lib.hid (KB.refl _ _)⟩
  case round =>
    obtain ⟨i, hi, rfl, hst, hkb⟩ := hrel
    by_cases hlt : i < N
    · have d2 : decide ((i : Int) < (N : Int)) = true := decide_eq_true (by omega)
      obtain ⟨rfl, hg, -⟩ := HS0.out (by omega)
      obtain ⟨cs, q1, q2⟩ := hst.out (by omega)
      obtain ⟨u0, hu0⟩ : ∃ u, cs[i * 4]? = some u := ⟨_, Array.getElem?_eq_getElem (by omega)⟩
      obtain ⟨u1, hu1⟩ : ∃ u, cs[i * 4 + 1]? = some u := ⟨_, Array.getElem?_eq_getElem (by omega)⟩
      obtain ⟨u2, hu2⟩ : ∃ u, cs[i * 4 + 2]? = some u := ⟨_, Array.getElem?_eq_getElem (by omega)⟩
      obtain ⟨u3, hu3⟩ : ∃ u, cs[i * 4 + 3]? = some u := ⟨_, Array.getElem?_eq_getElem (by omega)⟩
      have c0 : wr.cell? ⟨g1, i * 4, none⟩ = some u0 := by rw [blk_cell q1]; exact hu0
      have c1 : wr.cell? ⟨g1, i * 4 + 1, none⟩ = some u1 := by rw [blk_cell q1]; exact hu1
      have c2 : wr.cell? ⟨g1, i * 4 + 2, none⟩ = some u2 := by rw [blk_cell q1]; exact hu2
      have c3 : wr.cell? ⟨g1, i * 4 + 3, none⟩ = some u3 := by rw [blk_cell q1]; exact hu3
      have f0 := blk_frozen q1 (i * 4)
      have f1 := blk_frozen q1 (i * 4 + 1)
      have f2 := blk_frozen q1 (i * 4 + 2)
      have f3 := blk_frozen q1 (i * 4 + 3)
      have tNi : (i : Int) < (N : Int) := by omega
      have HQ := Lib.hid (And.intro q1 q2)
      clear q1 q2 hu0 hu1 hu2 hu3 hg hst
      gi_wp2_with fail
      refine ⟨⟨i + 1, by omega, by go_num, Lib.hid (fun _ => ?_), Lib.hid ?_⟩, by simp [intOf]; omega⟩
      · exact ⟨_, setCell_blk (i := i * 4 + 3) (setCell_blk (i := i * 4 + 2) (setCell_blk (i := i * 4 + 1) (setCell_blk (i := i * 4) HQ.out.1 _) _) _) _, by simp only [Array.size_setIfInBounds]; exact HQ.out.2⟩
      · exact (((hkb.out.setCell (p := ⟨g1, i * 4, none⟩) (fun _ => ⟨by omega, rfl⟩) _).setCell (p := ⟨g1, i * 4 + 1, none⟩) (fun _ => ⟨by omega, rfl⟩) _).setCell (p := ⟨g1, i * 4 + 2, none⟩) (fun _ => ⟨by omega, rfl⟩) _).setCell (p := ⟨g1, i * 4 + 3, none⟩) (fun _ => ⟨by omega, rfl⟩) _
    · obtain rfl : N = i := by omega
      have d2 : decide ((N : Int) < (N : Int)) = false := decide_eq_false (by omega)
      have K6b := Lib.hid (K6.out.2.2.above hkb.out (fun j e => by have := K2.out.2.2.2.2; omega))
      have k01 : KB F0 w0 wr := H1.out.1.trans K6b.out
      have hne1 : 0 < N → g1 < W2.heap.size := fun h => (HS0.out h).2.1
      have hWBb : W2.heap.size ≤ WB := by have h1 := K3.out.2.1.size; have h2 := HW5.out.1; have h3 := HG.out.2.2; omega
      have hWBg : ¬ (0 < N ∧ WB = g1) := fun e => by have := hne1 e.1; omega
      have K56 := Lib.hid ((K6.out.2.1.mono (fun _ _ x => x.elim)).trans hkb.out)
      clear hst hkb
      gi_wp2_with fail
      refine callW (EC.out wr k01) ?_
      rintro e W7 ⟨cb, a3, c3, rfl, hcb, icb, t7, k7⟩
      rw [← HN.out] at icb
      have k57 : KB (fun k => 0 < N ∧ k = g1) W5 W7 := K56.out.trans (k7.mono (fun _ _ x => x.elim))
      have hB7 := k57.heap (b := WB) (fun e => hWBg e) K5.out.2.1
      have t27 : ToksAt W7 a2 ts := ToksAt.kbS K5.out.2.2.2.2.1 k57 (fun g off h0 ha hg => by
        have h1 := K3.out.2.2.2.1 (by rw [HN.out]; exact h0)
        rw [h1.1] at ha
        simp only [Option.some.injEq, Addr.mk.injEq, and_true] at ha
        have h2 := hne1 (by rw [HN.out]; exact h0)
        have h5 : g = g1 := hg.2
        have h3 := K3.out.2.2.2.2
        omega)
      have t37 : ToksAt W7 va ts := ToksAt.kbS K5.out.2.2.1 k57 (fun g off h0 ha hg => by
        have h1 := HG3.out (by rw [HN.out]; exact h0)
        rw [h1] at ha
        simp only [Option.some.injEq, Addr.mk.injEq, and_true] at ha
        have h2 := hne1 (by rw [HN.out]; exact h0)
        have h5 : g = g1 := hg.2
        have h3 := HG.out.1
        have h4 := K3.out.2.1.size
        omega)
      have b7 : W7.cell? ⟨WB, 0, none⟩ = some (.slice va N vc) := blk_cell hB7 0
      have heq := fun w => each_eq cb w
      have K7 := Lib.hid (And.intro icb (And.intro t7 (And.intro hB7 (And.intro t37 (And.intro (K6b.out.trans k7) (k01.trans k7))))))
      have HT2 := Lib.hid t27
      clear icb t7 hB7 t37 k7 k57 t27 hcb
      gi_wp2_with fail
      refine callW (SM.out a2 va c2 vc W7 HT2.out K7.out.2.2.2.1) ?_
      rintro e w4 ⟨rfl, k8⟩
      have H4 := Lib.hid (And.intro (k8.heap (fun x => x) K7.out.1) (And.intro (K7.out.2.1.kbF k8) (And.intro (k8.heap (fun x => x) K7.out.2.2.1) (And.intro (K7.out.2.2.2.1.kbF k8) (And.intro ((K7.out.2.2.2.2.1.trans k8).heap (fun x => x) H1.out.2.1) (And.intro ((K7.out.2.2.2.2.1.trans k8).heap (fun x => x) H1.out.2.2) (K7.out.2.2.2.2.2.trans k8)))))))
      clear k8 b7 heq hne1 hWBb hWBg k01
      gi_wp2_with fail
      refine wpIn_loop_rounds 3 ?_
      obtain ⟨rb, hrb⟩ : ∃ rb, rb = w4.heap.size := ⟨_, rfl⟩
      obtain ⟨wr, hwr⟩ : ∃ wr, wr = w4.alloc (.cells #[.int .i64 0] 3) := ⟨_, rfl⟩
      have KR : Hid (wr.heap[rb]? = some (.cells #[.int .i64 0] 3 (0, 0)) ∧ w4.heap.size ≤ rb ∧ KB F0 w4 wr) := Lib.hid (by
        rw [hrb, hwr]; exact ⟨alloc_new _ _, (KB.refl F0 w4).size, (KB.refl F0 w4).alloc _⟩)
      rw [← hrb, ← hwr]

      clear hrb hwr
      rw [roundsIn_succ]
      obtain ⟨nb, hnb⟩ : ∃ nb, nb = wr.heap.size := ⟨_, rfl⟩
      obtain ⟨w5, hw5⟩ : ∃ w5, w5 = wr.alloc (.cells #[.int .i64 0] 3) := ⟨_, rfl⟩
      have k5 : KB F0 wr w5 := by rw [hw5]; exact (KB.refl _ _).alloc _
      have hs5 : w5.heap.size = nb + 1 := by rw [hw5, hnb]; simp
      have n5 : w5.heap[nb]? = some (.cells #[.int .i64 0] 3 (0, 0)) := by rw [hw5, hnb]; exact alloc_new wr _
      have hrb5 : rb < nb := by have := heap_lt KR.out.1; omega
      have h45 := KR.out.2.2.trans k5
      have hs4 := KR.out.2.2.size
      have hrb4 := KR.out.2.1
      have K5 := Lib.hid (And.intro k5 (And.intro hs5 (And.intro n5 (And.intro (k5.heap (fun x => x) KR.out.1) h45))))
      have HW5 := Lib.hid hw5
      have HNB := Lib.hid hnb
      have cR : wr.cell? ⟨rb, 0, none⟩ = some (.int .i64 0) := blk_cell KR.out.1 0
      have tR : decide ((0 : Int) < 2) = true := by decide
      clear hw5 hnb k5 hs5 n5 h45
      gi_wp2_with fail
      rw [← HNB.out, ← HW5.out]
      clear cR tR
      have ST := Lib.hid (each1_stops Fence.wide 19 (by omega) (fun _ => trivial) rfl cb a3 c3 ts (by rw [← HN.out]; omega) w5 (fun j => j = nb) (by have := heap_lt H4.out.1; omega) (fun g off h0 ha hg => by have := H4.out.2.1.lt h0 ha; omega)
        (by rw [← HN.out]; exact blk_cell (K5.out.2.2.2.2.heap (fun x => x) H4.out.1) 0) (H4.out.2.1.kbF K5.out.2.2.2.2))
      refine rangeFuncB (F := Fence.wide) rfl (by omega) (gf := 28) (lb := #[.pointer (some ⟨cb, 0, none⟩)]) rfl trivial (enters_of Tryd.func28 (by kernel_rfl) rfl)
        ST.out KC.trans
        (fun W l o o' _ h ho _ => KC.putObj W l o o' h ho) (Below.refl _ _) (fun _ => rfl)
        (fun pre W => W.heap[nb]? = some (.cells #[.int .i64 (pre.length : Nat)] 3 (0, 0)) ∧ KB (fun j => j = nb) w5 W)
        (fun c pre W => (c = .ret ∧ ¬ pre <+: ts) ∨ (c = .exit 4 ∧ (pre.length : Int) = few ∧ W.heap[nb]? = some (.cells #[.int .i64 (pre.length : Nat)] 3 (0, 0)) ∧ KB (fun j => j = nb) w5 W)) ?own0 ?ownx0 ?start0 (fun y tb W => W.heap[tb]? = some (.cells #[.int .u8 (y.k : Nat), .int .i64 y.at_, .int .i64 y.n, .string y.s] 32 (0, 0))) (fun y tb _ A B row h hg hr => own_heap hg hr h rfl) (fun W W' h => (KC.refl _ _).kb h (fun _ x => x.elim)) (fun pre W W' h hk => ⟨hk.heap (fun x => x) h.1, h.2.trans (hk.mono (fun _ _ x => x.elim))⟩) ?rounds0 ?done0 ?stop0
      case own0 =>
        rintro pre A B row ⟨h1, h2⟩ hg hr
        exact ⟨own_heap hg hr h1 rfl, h2.grown hg (fun k e hk => by have := (hr k e).1; omega)⟩
      case ownx0 =>
        rintro c pre A B row (h | ⟨h0, h01, h1, h2⟩) hg hr
        · exact .inl h
        · exact .inr ⟨h0, h01, own_heap hg hr h1 rfl, h2.grown hg (fun k e hk => by have := (hr k e).1; omega)⟩
      case start0 => exact ⟨K5.out.2.2.1, KB.refl _ _⟩
      case rounds0 =>
        apply Exists.intro
        refine ⟨?assign0, ?body0⟩
        case assign0 =>
          intro l y W tb K htb hK
          simp only [encT]
          obtain ⟨WT, hWT⟩ : ∃ WT, WT = W.alloc (.cells #[.int .u8 (y.k : Nat), .int .i64 y.at_, .int .i64 y.n, .string y.s] 32) := ⟨_, rfl⟩
          have HA := Lib.hid (hK WT (by rw [hWT]; exact (KB.refl _ _).alloc _) (by rw [hWT]; exact KeepsOthers.alloc _ _) (by rw [hWT, htb]; exact alloc_new _ _))
          have HW := Lib.hid hWT
          have HT := Lib.hid htb
          clear hK hWT htb
          gi_wp2
          rw [← HW.out, ← HT.out]
          exact HA.out
        case body0 =>
          rintro l pre y tb W ⟨h1, h2⟩ hTb _
          obtain ⟨pl, hpl⟩ : ∃ pl, pl = pre.length := ⟨_, rfl⟩
          have hW : ∀ j, j < w4.heap.size → ∀ o, w4.heap[j]? = some o → W.heap[j]? = some o := fun j hj o ho => h2.heap (show ¬ j = nb by omega) (K5.out.2.2.2.2.heap (fun x => x) ho)
          have cN : W.cell? ⟨nb, 0, none⟩ = some (.int .i64 (pl : Nat)) := by rw [hpl]; exact blk_cell h1 0
          have fN : W.frozen? ⟨nb, 0, none⟩ = false := blk_frozen h1 0
          have cW : W.cell? ⟨WB, 0, none⟩ = some (.slice va N vc) := blk_cell (hW WB (heap_lt H4.out.2.2.1) _ H4.out.2.2.1) 0
          have cF : W.cell? ⟨w0.heap.size, 0, none⟩ = some (.int .i64 few) := blk_cell (hW _ (heap_lt H4.out.2.2.2.2.1) _ H4.out.2.2.2.2.1) 0
          have cQ : W.cell? ⟨w0.heap.size + 1, 0, none⟩ = some (.bool false) := blk_cell (hW _ (heap_lt H4.out.2.2.2.2.2.1) _ H4.out.2.2.2.2.2.1) 0
          have fQ : W.frozen? ⟨w0.heap.size + 1, 0, none⟩ = false := blk_frozen (hW _ (heap_lt H4.out.2.2.2.2.2.1) _ H4.out.2.2.2.2.2.1) 0
          have cR : W.cell? ⟨rb, 0, none⟩ = some (.int .i64 0) := blk_cell (h2.heap (show ¬ rb = nb by omega) K5.out.2.2.2.1) 0
          have hWt : KB (fun j => j = nb) w4 W := (K5.out.2.2.2.2.mono (fun _ _ x => x.elim)).trans h2
          have HT := Lib.hid (ToksAt.kbS H4.out.2.2.2.1 hWt (fun g off h0 ha hg => by have := H4.out.2.2.2.1.lt h0 ha; omega))
          have HB := Lib.hid (And.intro h1 h2)
          rw [← hpl] at HB
          have HPL := Lib.hid hpl
          have x0 : W.cell? ⟨tb, 0, none⟩ = some (.int .u8 (y.k : Nat)) := blk_cell hTb 0
          have x1 : W.cell? ⟨tb, 1, none⟩ = some (.int .i64 y.at_) := blk_cell hTb 1
          have x2 : W.cell? ⟨tb, 2, none⟩ = some (.int .i64 y.n) := blk_cell hTb 2
          have x3 : W.cell? ⟨tb, 3, none⟩ = some (.string y.s) := blk_cell hTb 3
          clear h1 h2 hW hpl hWt hTb
          gi_wp2_with fail
          by_cases hge : N ≤ pl
          · have hnot : Hid (¬ (pre ++ [y]) <+: ts) := Lib.hid (fun h => by have := h.length_le; rw [List.length_append, ← HPL.out, ← HN.out] at this; simp at this; omega)
            have t0 : decide ((N : Int) ≤ (pl : Int)) = true := decide_eq_true (by omega)
            have t0n : decide (N ≤ pl) = true := decide_eq_true hge
            refine wpIn_region_rv 12 GQ (kindV []) (lets_wide.inRound l) (by kernel_rfl) (by kernel_rfl) (by kernel_rfl) GQ.trans GQ.refl (GQ.start _) (kindV_mono _) ?_
            simp only [List.take_succ_cons, List.take_zero, List.drop_succ_cons, List.drop_zero]
            iterate 5 (refine rv_det (by kernel_rfl) rfl (by intro w hG hH; obtain ⟨n, rfl⟩ := hG; go_simp; first | done | with_reducible rfl) ?_; simp only [Act.put, List.setIfInBounds_toArray, List.set_cons_zero, List.set_cons_succ])
            iterate 6 (refine rv_skip (by kernel_rfl) ?_; simp only [Act.put, List.setIfInBounds_toArray, List.set_cons_zero, List.set_cons_succ])
            refine rv_det (by kernel_rfl) rfl (by intro w hG hH; obtain ⟨n, rfl⟩ := hG; go_simp; first | done | with_reducible rfl) ?_
            simp only [Act.put, List.setIfInBounds_toArray, List.set_cons_zero, List.set_cons_succ]
            refine rv_nil (fun w hG hH => ?_)
            obtain ⟨n, rfl⟩ := hG
            clear hH
            have cQn : (W.drewN n).cell? ⟨w0.heap.size + 1, 0, none⟩ = some (.bool false) := cQ
            have fQn : (W.drewN n).frozen? ⟨w0.heap.size + 1, 0, none⟩ = false := fQ
            gi_wp2_with fail
            exact ⟨KeepsOthers.trans (⟨Nat.le_refl _, fun _ _ h _ => h⟩ : KeepsOthers W (W.drewN n)) (KeepsOthers.setCell _ _ _), .inl ⟨rfl, hnot.out⟩⟩
          · have t0 : decide ((N : Int) ≤ (pl : Int)) = false := decide_eq_false (by omega)
            have t0n : decide (N ≤ pl) = false := decide_eq_false hge
            have t0p : ¬ N ≤ pl := hge
            have tpl : (pl : Int) < (N : Int) := by omega
            have hplN : (pl : Int) < 20000 := by omega
            obtain ⟨gw, ow, rfl, hq⟩ := HT.out pl (by rw [← HN.out]; omega)
            have HGD := Lib.hid (fun (h : pre ++ [y] <+: ts) => (show ts.getD pl tk0 = y by rw [HPL.out]; exact getD_pre h))
            generalize ts.getD pl tk0 = q at hq HGD
            have e0 := hq.k
            have e1 := hq.at_
            have e2 := hq.n
            have e3 := hq.s
            clear hq
            by_cases hqy : y = q
            · rw [← hqy] at e0 e1 e2 e3
              refine wpIn_region_rv 12 GQ (kindV []) (lets_wide.inRound l) (by kernel_rfl) (by kernel_rfl) (by kernel_rfl) GQ.trans GQ.refl (GQ.start _) (kindV_mono _) ?_
              simp only [List.take_succ_cons, List.take_zero, List.drop_succ_cons, List.drop_zero]
              iterate 12 (refine rv_det (by kernel_rfl) rfl (by intro w hG hH; obtain ⟨n, rfl⟩ := hG; go_simp; first | done | with_reducible rfl) ?_; simp only [Act.put, List.setIfInBounds_toArray, List.set_cons_zero, List.set_cons_succ])
              refine rv_nil (fun w hG hH => ?_)
              obtain ⟨n, rfl⟩ := hG
              clear hH
              have cNn : (W.drewN n).cell? ⟨nb, 0, none⟩ = some (.int .i64 (pl : Nat)) := cN
              have fNn : (W.drewN n).frozen? ⟨nb, 0, none⟩ = false := fN
              have cFn : (W.drewN n).cell? ⟨w0.heap.size, 0, none⟩ = some (.int .i64 few) := cF
              have cRn : (W.drewN n).cell? ⟨rb, 0, none⟩ = some (.int .i64 0) := cR
              have hko : KeepsOthers W ((W.drewN n).setCell ⟨nb, 0, none⟩ (.int .i64 ((pl : Int) + 1))) := KeepsOthers.trans (⟨Nat.le_refl _, fun _ _ h _ => h⟩ : KeepsOthers W (W.drewN n)) (KeepsOthers.setCell _ _ _)
              have hkc : KC (fun j => j = nb) W ((W.drewN n).setCell ⟨nb, 0, none⟩ (.int .i64 ((pl : Int) + 1))) := ((KC.refl (fun j => j = nb) W).kb ((KB.refl F0 W).drewN n) (fun _ x => x.elim)).setCell (a := ⟨nb, 0, none⟩) rfl _
              have hfin : ((W.drewN n).setCell ⟨nb, 0, none⟩ (.int .i64 ((pl : Int) + 1))).heap[nb]? = some (.cells #[.int .i64 ((pre ++ [y]).length : Nat)] 3 (0, 0)) := by
                rw [List.length_append, ← HPL.out]
                exact set0_cell (((KB.refl F0 W).drewN n).heap (fun x => x) HB.out.1)
              have hkb : KB (fun j => j = nb) w5 ((W.drewN n).setCell ⟨nb, 0, none⟩ (.int .i64 ((pl : Int) + 1))) := (HB.out.2.drewN n).setCell (p := ⟨nb, 0, none⟩) (fun _ => rfl) _
              have HF := Lib.hid (And.intro hko (And.intro hkc (And.intro hfin hkb)))
              have hF1 : w0.heap.size < nb := by have := heap_lt H4.out.2.2.2.2.1; omega
              have hF2 : w0.heap.size ≠ nb := by omega
              clear hko hkc hfin hkb hqy HGD
              by_cases hfew : ((pl + 1 : Nat) : Int) = few
              · have t4 : (((pl : Int) + 1) == few) = true := by rw [← hfew]; push_cast; simp
                have HFW := Lib.hid hfew
                clear hfew
                gi_wp2_with fail
                exact ⟨HF.out.1, .inr ⟨rfl, by rw [List.length_append, ← HPL.out]; exact HFW.out, HF.out.2.2⟩⟩
              · have t4 : (((pl : Int) + 1) == few) = false := by rw [beq_eq_false_iff_ne]; intro e; exact hfew (by rw [← e]; push_cast; rfl)
                clear hfew
                gi_wp2_with fail
                exact ⟨HF.out.1, HF.out.2.1, HF.out.2.2⟩
            · have hnot : Hid (¬ (pre ++ [y]) <+: ts) := Lib.hid (fun h => hqy (HGD.out h).symm)
              obtain ⟨yk, ya, yn, ys⟩ := y
              obtain ⟨qk, qa, qn, qs⟩ := q
              simp only at e0 e1 e2 e3 x0 x1 x2 x3
              by_cases f0 : yk = qk
              · subst f0
                by_cases f1 : ya = qa
                · subst f1
                  by_cases f2 : yn = qn
                  · subst f2
                    by_cases f3 : ys = qs
                    · subst f3; exact (hqy rfl).elim
                    · have t1 : (ys.toList == qs.toList) = false := by rw [tl_beq]; exact decide_eq_false f3
                      clear f3 hqy HGD
                      refine wpIn_region_rv 12 GQ (kindV []) (lets_wide.inRound l) (by kernel_rfl) (by kernel_rfl) (by kernel_rfl) GQ.trans GQ.refl (GQ.start _) (kindV_mono _) ?_
                      simp only [List.take_succ_cons, List.take_zero, List.drop_succ_cons, List.drop_zero]
                      iterate 12 (refine rv_det (by kernel_rfl) rfl (by intro w hG hH; obtain ⟨n, rfl⟩ := hG; go_simp; first | done | with_reducible rfl) ?_; simp only [Act.put, List.setIfInBounds_toArray, List.set_cons_zero, List.set_cons_succ])
                      refine rv_nil (fun w hG hH => ?_)
                      obtain ⟨n, rfl⟩ := hG
                      clear hH
                      have cQn : (W.drewN n).cell? ⟨w0.heap.size + 1, 0, none⟩ = some (.bool false) := cQ
                      have fQn : (W.drewN n).frozen? ⟨w0.heap.size + 1, 0, none⟩ = false := fQ
                      gi_wp2_with fail
                      exact ⟨KeepsOthers.trans (⟨Nat.le_refl _, fun _ _ h _ => h⟩ : KeepsOthers W (W.drewN n)) (KeepsOthers.setCell _ _ _), .inl ⟨rfl, hnot.out⟩⟩
                  · have t1 : (yn == qn) = false := by simpa using f2
                    clear f2 hqy HGD
                    refine wpIn_region_rv 12 GQ (kindV []) (lets_wide.inRound l) (by kernel_rfl) (by kernel_rfl) (by kernel_rfl) GQ.trans GQ.refl (GQ.start _) (kindV_mono _) ?_
                    simp only [List.take_succ_cons, List.take_zero, List.drop_succ_cons, List.drop_zero]
                    iterate 12 (refine rv_det (by kernel_rfl) rfl (by intro w hG hH; obtain ⟨n, rfl⟩ := hG; go_simp; first | done | with_reducible rfl) ?_; simp only [Act.put, List.setIfInBounds_toArray, List.set_cons_zero, List.set_cons_succ])
                    refine rv_nil (fun w hG hH => ?_)
                    obtain ⟨n, rfl⟩ := hG
                    clear hH
                    have cQn : (W.drewN n).cell? ⟨w0.heap.size + 1, 0, none⟩ = some (.bool false) := cQ
                    have fQn : (W.drewN n).frozen? ⟨w0.heap.size + 1, 0, none⟩ = false := fQ
                    gi_wp2_with fail
                    exact ⟨KeepsOthers.trans (⟨Nat.le_refl _, fun _ _ h _ => h⟩ : KeepsOthers W (W.drewN n)) (KeepsOthers.setCell _ _ _), .inl ⟨rfl, hnot.out⟩⟩
                · have t1 : (ya == qa) = false := by simpa using f1
                  clear f1 hqy HGD
                  refine wpIn_region_rv 12 GQ (kindV []) (lets_wide.inRound l) (by kernel_rfl) (by kernel_rfl) (by kernel_rfl) GQ.trans GQ.refl (GQ.start _) (kindV_mono _) ?_
                  simp only [List.take_succ_cons, List.take_zero, List.drop_succ_cons, List.drop_zero]
                  iterate 12 (refine rv_det (by kernel_rfl) rfl (by intro w hG hH; obtain ⟨n, rfl⟩ := hG; go_simp; first | done | with_reducible rfl) ?_; simp only [Act.put, List.setIfInBounds_toArray, List.set_cons_zero, List.set_cons_succ])
                  refine rv_nil (fun w hG hH => ?_)
                  obtain ⟨n, rfl⟩ := hG
                  clear hH
                  have cQn : (W.drewN n).cell? ⟨w0.heap.size + 1, 0, none⟩ = some (.bool false) := cQ
                  have fQn : (W.drewN n).frozen? ⟨w0.heap.size + 1, 0, none⟩ = false := fQ
                  gi_wp2_with fail
                  exact ⟨KeepsOthers.trans (⟨Nat.le_refl _, fun _ _ h _ => h⟩ : KeepsOthers W (W.drewN n)) (KeepsOthers.setCell _ _ _), .inl ⟨rfl, hnot.out⟩⟩
              · have t1 : ((yk : Int) == (qk : Int)) = false := by simp; omega
                clear f0 hqy HGD
                refine wpIn_region_rv 12 GQ (kindV []) (lets_wide.inRound l) (by kernel_rfl) (by kernel_rfl) (by kernel_rfl) GQ.trans GQ.refl (GQ.start _) (kindV_mono _) ?_
                simp only [List.take_succ_cons, List.take_zero, List.drop_succ_cons, List.drop_zero]
                iterate 12 (refine rv_det (by kernel_rfl) rfl (by intro w hG hH; obtain ⟨n, rfl⟩ := hG; go_simp; first | done | with_reducible rfl) ?_; simp only [Act.put, List.setIfInBounds_toArray, List.set_cons_zero, List.set_cons_succ])
                refine rv_nil (fun w hG hH => ?_)
                obtain ⟨n, rfl⟩ := hG
                clear hH
                have cQn : (W.drewN n).cell? ⟨w0.heap.size + 1, 0, none⟩ = some (.bool false) := cQ
                have fQn : (W.drewN n).frozen? ⟨w0.heap.size + 1, 0, none⟩ = false := fQ
                gi_wp2_with fail
                exact ⟨KeepsOthers.trans (⟨Nat.le_refl _, fun _ _ h _ => h⟩ : KeepsOthers W (W.drewN n)) (KeepsOthers.setCell _ _ _), .inl ⟨rfl, hnot.out⟩⟩
      case done0 =>
        rintro D ys W hD hys ⟨h1, h2⟩ hK
        rw [hys, ← HN.out] at h1
        clear hys
        have cN : W.cell? ⟨nb, 0, none⟩ = some (.int .i64 (N : Nat)) := blk_cell h1 0
        have hW : ∀ j, j < w4.heap.size → ∀ o, w4.heap[j]? = some o → W.heap[j]? = some o := fun j hj o ho => h2.heap (show ¬ j = nb by omega) (K5.out.2.2.2.2.heap (fun x => x) ho)
        have cW : W.cell? ⟨WB, 0, none⟩ = some (.slice va N vc) := blk_cell (hW WB (heap_lt H4.out.2.2.1) _ H4.out.2.2.1) 0
        have cF : W.cell? ⟨w0.heap.size, 0, none⟩ = some (.int .i64 few) := blk_cell (hW _ (heap_lt H4.out.2.2.2.2.1) _ H4.out.2.2.2.2.1) 0
        have cR : W.cell? ⟨rb, 0, none⟩ = some (.int .i64 0) := blk_cell (h2.heap (show ¬ rb = nb by omega) K5.out.2.2.2.1) 0
        have t5 : ((N : Int) != (N : Int)) = false := by simp
        have t6 : True := trivial
        have HD := Lib.hid hK
        have HB := Lib.hid h2
        clear h1 h2 hW hK
        gi_wp2_with fail
        have k4W : KB F0 w4 W := K5.out.2.2.2.2.above HB.out (fun i e => by omega)
        have hD0 : w4.heap.size ≤ D := by have := K5.out.2.1; omega
        obtain ⟨D0, hDD⟩ : ∃ D0, D0 = D := ⟨_, rfl⟩
        rw [← hDD] at HD hD0 ⊢
        clear hDD cN cW cF cR t5 t6
        have HK4 := Lib.hid k4W
        clear k4W
        obtain ⟨rb, hrb⟩ : ∃ rb, rb = W.heap.size := ⟨_, rfl⟩
        obtain ⟨wr, hwr⟩ : ∃ wr, wr = W.alloc (.cells #[.int .i64 1] 3) := ⟨_, rfl⟩
        have KR : Hid (wr.heap[rb]? = some (.cells #[.int .i64 1] 3 (0, 0)) ∧ w4.heap.size ≤ rb ∧ KB F0 w4 wr) := Lib.hid (by
          rw [hrb, hwr]; exact ⟨alloc_new _ _, HK4.out.size, HK4.out.alloc _⟩)
        have HD0 : Hid (wr.heap[D0]? = some (.deferred (some []))) := Lib.hid (by rw [hwr]; exact ((KB.refl F0 W).alloc _).heap (fun x => x) HD.out)
        rw [← hrb, ← hwr]
        have hDrb : D0 < rb := by rw [hrb]; exact heap_lt HD.out
        clear hrb hwr
        rw [roundsIn_succ]
        obtain ⟨nb, hnb⟩ : ∃ nb, nb = wr.heap.size := ⟨_, rfl⟩
        obtain ⟨w5, hw5⟩ : ∃ w5, w5 = wr.alloc (.cells #[.int .i64 0] 3) := ⟨_, rfl⟩
        have k5 : KB F0 wr w5 := by rw [hw5]; exact (KB.refl _ _).alloc _
        have hs5 : w5.heap.size = nb + 1 := by rw [hw5, hnb]; simp
        have n5 : w5.heap[nb]? = some (.cells #[.int .i64 0] 3 (0, 0)) := by rw [hw5, hnb]; exact alloc_new wr _
        have hrb5 : rb < nb := by have := heap_lt KR.out.1; omega
        have h45 := KR.out.2.2.trans k5
        have hs4 := KR.out.2.2.size
        have hrb4 := KR.out.2.1
        have K5 := Lib.hid (And.intro k5 (And.intro hs5 (And.intro n5 (And.intro (k5.heap (fun x => x) KR.out.1) h45))))
        have HW5 := Lib.hid hw5
        have HNB := Lib.hid hnb
        have cR : wr.cell? ⟨rb, 0, none⟩ = some (.int .i64 1) := blk_cell KR.out.1 0
        have tR : decide ((1 : Int) < 2) = true := by decide
        clear hw5 hnb k5 hs5 n5 h45
        gi_wp2_with fail
        rw [← HNB.out, ← HW5.out]
        clear cR tR
        have ST := Lib.hid (each1_stops Fence.wide 19 (by omega) (fun _ => trivial) rfl cb a3 c3 ts (by rw [← HN.out]; omega) w5 (fun j => j = nb) (by have := heap_lt H4.out.1; omega) (fun g off h0 ha hg => by have := H4.out.2.1.lt h0 ha; omega)
          (by rw [← HN.out]; exact blk_cell (K5.out.2.2.2.2.heap (fun x => x) H4.out.1) 0) (H4.out.2.1.kbF K5.out.2.2.2.2))
        refine rangeFuncB (F := Fence.wide) rfl (by omega) (gf := 28) (lb := #[.pointer (some ⟨cb, 0, none⟩)]) rfl trivial (enters_of Tryd.func28 (by kernel_rfl) rfl)
          ST.out KC.trans
          (fun W l o o' _ h ho _ => KC.putObj W l o o' h ho) (Below.refl _ _) (fun _ => rfl)
          (fun pre W => W.heap[nb]? = some (.cells #[.int .i64 (pre.length : Nat)] 3 (0, 0)) ∧ KB (fun j => j = nb) w5 W)
          (fun c pre W => (c = .ret ∧ ¬ pre <+: ts)) ?own1 ?ownx1 ?start1 (fun y tb W => W.heap[tb]? = some (.cells #[.int .u8 (y.k : Nat), .int .i64 y.at_, .int .i64 y.n, .string y.s] 32 (0, 0))) (fun y tb _ A B row h hg hr => own_heap hg hr h rfl) (fun W W' h => (KC.refl _ _).kb h (fun _ x => x.elim)) (fun pre W W' h hk => ⟨hk.heap (fun x => x) h.1, h.2.trans (hk.mono (fun _ _ x => x.elim))⟩) ?rounds1 ?done1 ?stop1
        case own1 =>
          rintro pre A B row ⟨h1, h2⟩ hg hr
          exact ⟨own_heap hg hr h1 rfl, h2.grown hg (fun k e hk => by have := (hr k e).1; omega)⟩
        case ownx1 => exact fun _ => ownFrom_pure _ _
        case start1 => exact ⟨K5.out.2.2.1, KB.refl _ _⟩
        case rounds1 =>
          apply Exists.intro
          refine ⟨?assign1, ?body1⟩
          case assign1 =>
            intro l y W tb K htb hK
            simp only [encT]
            obtain ⟨WT, hWT⟩ : ∃ WT, WT = W.alloc (.cells #[.int .u8 (y.k : Nat), .int .i64 y.at_, .int .i64 y.n, .string y.s] 32) := ⟨_, rfl⟩
            have HA := Lib.hid (hK WT (by rw [hWT]; exact (KB.refl _ _).alloc _) (by rw [hWT]; exact KeepsOthers.alloc _ _) (by rw [hWT, htb]; exact alloc_new _ _))
            have HW := Lib.hid hWT
            have HT := Lib.hid htb
            clear hK hWT htb
            gi_wp2
            rw [← HW.out, ← HT.out]
            exact HA.out
          case body1 =>
            rintro l pre y tb W ⟨h1, h2⟩ hTb _
            obtain ⟨pl, hpl⟩ : ∃ pl, pl = pre.length := ⟨_, rfl⟩
            have hW : ∀ j, j < w4.heap.size → ∀ o, w4.heap[j]? = some o → W.heap[j]? = some o := fun j hj o ho => h2.heap (show ¬ j = nb by omega) (K5.out.2.2.2.2.heap (fun x => x) ho)
            have cN : W.cell? ⟨nb, 0, none⟩ = some (.int .i64 (pl : Nat)) := by rw [hpl]; exact blk_cell h1 0
            have fN : W.frozen? ⟨nb, 0, none⟩ = false := blk_frozen h1 0
            have cW : W.cell? ⟨WB, 0, none⟩ = some (.slice va N vc) := blk_cell (hW WB (heap_lt H4.out.2.2.1) _ H4.out.2.2.1) 0
            have cF : W.cell? ⟨w0.heap.size, 0, none⟩ = some (.int .i64 few) := blk_cell (hW _ (heap_lt H4.out.2.2.2.2.1) _ H4.out.2.2.2.2.1) 0
            have cQ : W.cell? ⟨w0.heap.size + 1, 0, none⟩ = some (.bool false) := blk_cell (hW _ (heap_lt H4.out.2.2.2.2.2.1) _ H4.out.2.2.2.2.2.1) 0
            have fQ : W.frozen? ⟨w0.heap.size + 1, 0, none⟩ = false := blk_frozen (hW _ (heap_lt H4.out.2.2.2.2.2.1) _ H4.out.2.2.2.2.2.1) 0
            have cR : W.cell? ⟨rb, 0, none⟩ = some (.int .i64 1) := blk_cell (h2.heap (show ¬ rb = nb by omega) K5.out.2.2.2.1) 0
            have hWt : KB (fun j => j = nb) w4 W := (K5.out.2.2.2.2.mono (fun _ _ x => x.elim)).trans h2
            have HT := Lib.hid (ToksAt.kbS H4.out.2.2.2.1 hWt (fun g off h0 ha hg => by have := H4.out.2.2.2.1.lt h0 ha; omega))
            have HB := Lib.hid (And.intro h1 h2)
            rw [← hpl] at HB
            have HPL := Lib.hid hpl
            have x0 : W.cell? ⟨tb, 0, none⟩ = some (.int .u8 (y.k : Nat)) := blk_cell hTb 0
            have x1 : W.cell? ⟨tb, 1, none⟩ = some (.int .i64 y.at_) := blk_cell hTb 1
            have x2 : W.cell? ⟨tb, 2, none⟩ = some (.int .i64 y.n) := blk_cell hTb 2
            have x3 : W.cell? ⟨tb, 3, none⟩ = some (.string y.s) := blk_cell hTb 3
            clear h1 h2 hW hpl hWt hTb
            gi_wp2_with fail
            by_cases hge : N ≤ pl
            · have hnot : Hid (¬ (pre ++ [y]) <+: ts) := Lib.hid (fun h => by have := h.length_le; rw [List.length_append, ← HPL.out, ← HN.out] at this; simp at this; omega)
              have t0 : decide ((N : Int) ≤ (pl : Int)) = true := decide_eq_true (by omega)
              have t0n : decide (N ≤ pl) = true := decide_eq_true hge
              refine wpIn_region_rv 12 GQ (kindV []) (lets_wide.inRound l) (by kernel_rfl) (by kernel_rfl) (by kernel_rfl) GQ.trans GQ.refl (GQ.start _) (kindV_mono _) ?_
              simp only [List.take_succ_cons, List.take_zero, List.drop_succ_cons, List.drop_zero]
              iterate 5 (refine rv_det (by kernel_rfl) rfl (by intro w hG hH; obtain ⟨n, rfl⟩ := hG; go_simp; first | done | with_reducible rfl) ?_; simp only [Act.put, List.setIfInBounds_toArray, List.set_cons_zero, List.set_cons_succ])
              iterate 6 (refine rv_skip (by kernel_rfl) ?_; simp only [Act.put, List.setIfInBounds_toArray, List.set_cons_zero, List.set_cons_succ])
              refine rv_det (by kernel_rfl) rfl (by intro w hG hH; obtain ⟨n, rfl⟩ := hG; go_simp; first | done | with_reducible rfl) ?_
              simp only [Act.put, List.setIfInBounds_toArray, List.set_cons_zero, List.set_cons_succ]
              refine rv_nil (fun w hG hH => ?_)
              obtain ⟨n, rfl⟩ := hG
              clear hH
              have cQn : (W.drewN n).cell? ⟨w0.heap.size + 1, 0, none⟩ = some (.bool false) := cQ
              have fQn : (W.drewN n).frozen? ⟨w0.heap.size + 1, 0, none⟩ = false := fQ
              gi_wp2_with fail
              exact ⟨KeepsOthers.trans (⟨Nat.le_refl _, fun _ _ h _ => h⟩ : KeepsOthers W (W.drewN n)) (KeepsOthers.setCell _ _ _), ⟨rfl, hnot.out⟩⟩
            · have t0 : decide ((N : Int) ≤ (pl : Int)) = false := decide_eq_false (by omega)
              have t0n : decide (N ≤ pl) = false := decide_eq_false hge
              have t0p : ¬ N ≤ pl := hge
              have tpl : (pl : Int) < (N : Int) := by omega
              have hplN : (pl : Int) < 20000 := by omega
              obtain ⟨gw, ow, rfl, hq⟩ := HT.out pl (by rw [← HN.out]; omega)
              have HGD := Lib.hid (fun (h : pre ++ [y] <+: ts) => (show ts.getD pl tk0 = y by rw [HPL.out]; exact getD_pre h))
              generalize ts.getD pl tk0 = q at hq HGD
              have e0 := hq.k
              have e1 := hq.at_
              have e2 := hq.n
              have e3 := hq.s
              clear hq
              by_cases hqy : y = q
              · rw [← hqy] at e0 e1 e2 e3
                refine wpIn_region_rv 12 GQ (kindV []) (lets_wide.inRound l) (by kernel_rfl) (by kernel_rfl) (by kernel_rfl) GQ.trans GQ.refl (GQ.start _) (kindV_mono _) ?_
                simp only [List.take_succ_cons, List.take_zero, List.drop_succ_cons, List.drop_zero]
                iterate 12 (refine rv_det (by kernel_rfl) rfl (by intro w hG hH; obtain ⟨n, rfl⟩ := hG; go_simp; first | done | with_reducible rfl) ?_; simp only [Act.put, List.setIfInBounds_toArray, List.set_cons_zero, List.set_cons_succ])
                refine rv_nil (fun w hG hH => ?_)
                obtain ⟨n, rfl⟩ := hG
                clear hH
                have cNn : (W.drewN n).cell? ⟨nb, 0, none⟩ = some (.int .i64 (pl : Nat)) := cN
                have fNn : (W.drewN n).frozen? ⟨nb, 0, none⟩ = false := fN
                have cFn : (W.drewN n).cell? ⟨w0.heap.size, 0, none⟩ = some (.int .i64 few) := cF
                have cRn : (W.drewN n).cell? ⟨rb, 0, none⟩ = some (.int .i64 1) := cR
                have hko : KeepsOthers W ((W.drewN n).setCell ⟨nb, 0, none⟩ (.int .i64 ((pl : Int) + 1))) := KeepsOthers.trans (⟨Nat.le_refl _, fun _ _ h _ => h⟩ : KeepsOthers W (W.drewN n)) (KeepsOthers.setCell _ _ _)
                have hkc : KC (fun j => j = nb) W ((W.drewN n).setCell ⟨nb, 0, none⟩ (.int .i64 ((pl : Int) + 1))) := ((KC.refl (fun j => j = nb) W).kb ((KB.refl F0 W).drewN n) (fun _ x => x.elim)).setCell (a := ⟨nb, 0, none⟩) rfl _
                have hfin : ((W.drewN n).setCell ⟨nb, 0, none⟩ (.int .i64 ((pl : Int) + 1))).heap[nb]? = some (.cells #[.int .i64 ((pre ++ [y]).length : Nat)] 3 (0, 0)) := by
                  rw [List.length_append, ← HPL.out]
                  exact set0_cell (((KB.refl F0 W).drewN n).heap (fun x => x) HB.out.1)
                have hkb : KB (fun j => j = nb) w5 ((W.drewN n).setCell ⟨nb, 0, none⟩ (.int .i64 ((pl : Int) + 1))) := (HB.out.2.drewN n).setCell (p := ⟨nb, 0, none⟩) (fun _ => rfl) _
                have HF := Lib.hid (And.intro hko (And.intro hkc (And.intro hfin hkb)))
                have hF1 : w0.heap.size < nb := by have := heap_lt H4.out.2.2.2.2.1; omega
                have hF2 : w0.heap.size ≠ nb := by omega
                clear hko hkc hfin hkb hqy HGD
                gi_wp2_with fail
                exact ⟨HF.out.1, HF.out.2.1, HF.out.2.2⟩
              · have hnot : Hid (¬ (pre ++ [y]) <+: ts) := Lib.hid (fun h => hqy (HGD.out h).symm)
                obtain ⟨yk, ya, yn, ys⟩ := y
                obtain ⟨qk, qa, qn, qs⟩ := q
                simp only at e0 e1 e2 e3 x0 x1 x2 x3
                by_cases f0 : yk = qk
                · subst f0
                  by_cases f1 : ya = qa
                  · subst f1
                    by_cases f2 : yn = qn
                    · subst f2
                      by_cases f3 : ys = qs
                      · subst f3; exact (hqy rfl).elim
                      · have t1 : (ys.toList == qs.toList) = false := by rw [tl_beq]; exact decide_eq_false f3
                        clear f3 hqy HGD
                        refine wpIn_region_rv 12 GQ (kindV []) (lets_wide.inRound l) (by kernel_rfl) (by kernel_rfl) (by kernel_rfl) GQ.trans GQ.refl (GQ.start _) (kindV_mono _) ?_
                        simp only [List.take_succ_cons, List.take_zero, List.drop_succ_cons, List.drop_zero]
                        iterate 12 (refine rv_det (by kernel_rfl) rfl (by intro w hG hH; obtain ⟨n, rfl⟩ := hG; go_simp; first | done | with_reducible rfl) ?_; simp only [Act.put, List.setIfInBounds_toArray, List.set_cons_zero, List.set_cons_succ])
                        refine rv_nil (fun w hG hH => ?_)
                        obtain ⟨n, rfl⟩ := hG
                        clear hH
                        have cQn : (W.drewN n).cell? ⟨w0.heap.size + 1, 0, none⟩ = some (.bool false) := cQ
                        have fQn : (W.drewN n).frozen? ⟨w0.heap.size + 1, 0, none⟩ = false := fQ
                        gi_wp2_with fail
                        exact ⟨KeepsOthers.trans (⟨Nat.le_refl _, fun _ _ h _ => h⟩ : KeepsOthers W (W.drewN n)) (KeepsOthers.setCell _ _ _), ⟨rfl, hnot.out⟩⟩
                    · have t1 : (yn == qn) = false := by simpa using f2
                      clear f2 hqy HGD
                      refine wpIn_region_rv 12 GQ (kindV []) (lets_wide.inRound l) (by kernel_rfl) (by kernel_rfl) (by kernel_rfl) GQ.trans GQ.refl (GQ.start _) (kindV_mono _) ?_
                      simp only [List.take_succ_cons, List.take_zero, List.drop_succ_cons, List.drop_zero]
                      iterate 12 (refine rv_det (by kernel_rfl) rfl (by intro w hG hH; obtain ⟨n, rfl⟩ := hG; go_simp; first | done | with_reducible rfl) ?_; simp only [Act.put, List.setIfInBounds_toArray, List.set_cons_zero, List.set_cons_succ])
                      refine rv_nil (fun w hG hH => ?_)
                      obtain ⟨n, rfl⟩ := hG
                      clear hH
                      have cQn : (W.drewN n).cell? ⟨w0.heap.size + 1, 0, none⟩ = some (.bool false) := cQ
                      have fQn : (W.drewN n).frozen? ⟨w0.heap.size + 1, 0, none⟩ = false := fQ
                      gi_wp2_with fail
                      exact ⟨KeepsOthers.trans (⟨Nat.le_refl _, fun _ _ h _ => h⟩ : KeepsOthers W (W.drewN n)) (KeepsOthers.setCell _ _ _), ⟨rfl, hnot.out⟩⟩
                  · have t1 : (ya == qa) = false := by simpa using f1
                    clear f1 hqy HGD
                    refine wpIn_region_rv 12 GQ (kindV []) (lets_wide.inRound l) (by kernel_rfl) (by kernel_rfl) (by kernel_rfl) GQ.trans GQ.refl (GQ.start _) (kindV_mono _) ?_
                    simp only [List.take_succ_cons, List.take_zero, List.drop_succ_cons, List.drop_zero]
                    iterate 12 (refine rv_det (by kernel_rfl) rfl (by intro w hG hH; obtain ⟨n, rfl⟩ := hG; go_simp; first | done | with_reducible rfl) ?_; simp only [Act.put, List.setIfInBounds_toArray, List.set_cons_zero, List.set_cons_succ])
                    refine rv_nil (fun w hG hH => ?_)
                    obtain ⟨n, rfl⟩ := hG
                    clear hH
                    have cQn : (W.drewN n).cell? ⟨w0.heap.size + 1, 0, none⟩ = some (.bool false) := cQ
                    have fQn : (W.drewN n).frozen? ⟨w0.heap.size + 1, 0, none⟩ = false := fQ
                    gi_wp2_with fail
                    exact ⟨KeepsOthers.trans (⟨Nat.le_refl _, fun _ _ h _ => h⟩ : KeepsOthers W (W.drewN n)) (KeepsOthers.setCell _ _ _), ⟨rfl, hnot.out⟩⟩
                · have t1 : ((yk : Int) == (qk : Int)) = false := by simp; omega
                  clear f0 hqy HGD
                  refine wpIn_region_rv 12 GQ (kindV []) (lets_wide.inRound l) (by kernel_rfl) (by kernel_rfl) (by kernel_rfl) GQ.trans GQ.refl (GQ.start _) (kindV_mono _) ?_
                  simp only [List.take_succ_cons, List.take_zero, List.drop_succ_cons, List.drop_zero]
                  iterate 12 (refine rv_det (by kernel_rfl) rfl (by intro w hG hH; obtain ⟨n, rfl⟩ := hG; go_simp; first | done | with_reducible rfl) ?_; simp only [Act.put, List.setIfInBounds_toArray, List.set_cons_zero, List.set_cons_succ])
                  refine rv_nil (fun w hG hH => ?_)
                  obtain ⟨n, rfl⟩ := hG
                  clear hH
                  have cQn : (W.drewN n).cell? ⟨w0.heap.size + 1, 0, none⟩ = some (.bool false) := cQ
                  have fQn : (W.drewN n).frozen? ⟨w0.heap.size + 1, 0, none⟩ = false := fQ
                  gi_wp2_with fail
                  exact ⟨KeepsOthers.trans (⟨Nat.le_refl _, fun _ _ h _ => h⟩ : KeepsOthers W (W.drewN n)) (KeepsOthers.setCell _ _ _), ⟨rfl, hnot.out⟩⟩
        case stop1 =>
          rintro D c pre W hD hp ⟨-, h⟩ hK
          exact (h hp).elim
        case done1 =>
          rintro D ys W hD hys ⟨h1, h2⟩ hK
          rw [hys, ← HN.out] at h1
          clear hys
          have cN : W.cell? ⟨nb, 0, none⟩ = some (.int .i64 (N : Nat)) := blk_cell h1 0
          have hW : ∀ j, j < w4.heap.size → ∀ o, w4.heap[j]? = some o → W.heap[j]? = some o := fun j hj o ho => h2.heap (show ¬ j = nb by omega) (K5.out.2.2.2.2.heap (fun x => x) ho)
          have cW : W.cell? ⟨WB, 0, none⟩ = some (.slice va N vc) := blk_cell (hW WB (heap_lt H4.out.2.2.1) _ H4.out.2.2.1) 0
          have cF : W.cell? ⟨w0.heap.size, 0, none⟩ = some (.int .i64 few) := blk_cell (hW _ (heap_lt H4.out.2.2.2.2.1) _ H4.out.2.2.2.2.1) 0
          have cR : W.cell? ⟨rb, 0, none⟩ = some (.int .i64 1) := blk_cell (h2.heap (show ¬ rb = nb by omega) K5.out.2.2.2.1) 0
          have t5 : ((N : Int) != (N : Int)) = false := by simp
          have hD0W : W.heap[D0]? = some (.deferred (some [])) := h2.heap (show ¬ D0 = nb by omega) (K5.out.1.heap (fun x => x) HD0.out)
          have k4W : KB F0 w4 W := K5.out.2.2.2.2.above h2 (fun i e => by omega)
          have hneD : D0 ≠ D := by have := K5.out.2.1; omega
          have hRW := hW _ (heap_lt H4.out.2.2.2.2.2.1) _ H4.out.2.2.2.2.2.1
          have HB := Lib.hid (And.intro hK (And.intro hD0W (And.intro k4W hRW)))
          have hs9 := k4W.size
          have hDW := heap_lt hK
          clear h1 h2 hW hK hD0W k4W hRW
          gi_wp2_with fail
          rw [roundsIn_succ]
          obtain ⟨rb2, hrb2⟩ : ∃ rb2, rb2 = W.heap.size := ⟨_, rfl⟩
          obtain ⟨wr2, hwr2⟩ : ∃ wr2, wr2 = W.alloc (.cells #[.int .i64 2] 3) := ⟨_, rfl⟩
          have k6 : KB F0 W wr2 := by rw [hwr2]; exact (KB.refl _ _).alloc _
          have cR2 : wr2.cell? ⟨rb2, 0, none⟩ = some (.int .i64 2) := by rw [hrb2, hwr2]; exact blk_cell (alloc_new W (.cells #[.int .i64 2] 3)) 0
          rw [← hrb2, ← hwr2]
          have HE := Lib.hid (And.intro (k6.heap (fun x => x) HB.out.1) (And.intro (k6.heap (fun x => x) HB.out.2.1) (HB.out.2.2.1.trans k6)))
          clear hrb2 hwr2 k6 cN cW cF cR t5
          gi_wp2_with fail
          refine callW (AW.out wr2 (H4.out.2.2.2.2.2.2.trans HE.out.2.2)) ?_
          rintro e w9 ⟨rfl, k9⟩
          have k09 : KB F0 w4 w9 := HE.out.2.2.trans k9
          have hRw := k09.heap (fun x => x) H4.out.2.2.2.2.2.1
          have cQ : w9.cell? ⟨w0.heap.size + 1, 0, none⟩ = some (.bool false) := blk_cell hRw 0
          have fQ : w9.frozen? ⟨w0.heap.size + 1, 0, none⟩ = false := blk_frozen hRw 0
          have HE9 := Lib.hid (And.intro (k9.heap (fun x => x) HE.out.1) (And.intro (k9.heap (fun x => x) HE.out.2.1) (H4.out.2.2.2.2.2.2.trans k09)))
          clear k9 hRw k09
          gi_wp2_with fail
          have hc := World.cell?_setCell_same' w9 ⟨w0.heap.size + 1, 0, none⟩ (.bool true) (by rw [cQ]; rfl)
          have hFD : w0.heap.size + 1 < D0 ∧ w0.heap.size + 1 < D := by have := K5.out.2.1; have := heap_lt H4.out.2.2.2.2.2.1; omega
          have hd1 : (w9.setCell ⟨w0.heap.size + 1, 0, none⟩ (.bool true)).heap[D]? = some (.deferred (some [])) := (Below.heap_setCell w9 ⟨w0.heap.size + 1, 0, none⟩ _ D (by show D ≠ w0.heap.size + 1; omega)).trans HE9.out.1
          have hd0 : (w9.setCell ⟨w0.heap.size + 1, 0, none⟩ (.bool true)).heap[D0]? = some (.deferred (some [])) := (Below.heap_setCell w9 ⟨w0.heap.size + 1, 0, none⟩ _ D0 (by show D0 ≠ w0.heap.size + 1; omega)).trans HE9.out.2.1
          have k9 : KB F0 w0 (w9.setCell ⟨w0.heap.size + 1, 0, none⟩ (.bool true)) := HE9.out.2.2.setCell (p := ⟨w0.heap.size + 1, 0, none⟩) (fun hh => by have h1 : w0.heap.size + 1 < w0.heap.size := hh; omega) _
          refine ⟨by simp, .inl ⟨_, _, rfl, run_takeDeferred hd1, ?_⟩⟩
          refine ⟨by simp, .inl ⟨_, _, rfl, run_takeDeferred ((World.putObj_heap_other hneD).trans hd0), ?_⟩⟩
          refine ⟨.bool true, results_cell rfl _ rfl ((World.cell?_of_block (World.putObj_heap_other (k := w0.heap.size + 1) (by omega))).trans ((World.cell?_of_block (World.putObj_heap_other (k := w0.heap.size + 1) (by omega))).trans hc)), rfl, ?_⟩
          exact (k9.putObjF D _ (by omega)).putObjF D0 _ (by omega)
      case stop0 =>
        rintro D c pre W hD hp (⟨-, h⟩ | ⟨rfl, h01, h1, h2⟩) hK
        · exact (h hp).elim
        · obtain ⟨pl, hpl⟩ : ∃ pl, pl = pre.length := ⟨_, rfl⟩
          have hpN : pre.length ≤ N := by rw [HN.out]; exact hp.length_le
          rw [← hpl] at h1 h01 hpN
          have cN : W.cell? ⟨nb, 0, none⟩ = some (.int .i64 (pl : Nat)) := blk_cell h1 0
          have hW : ∀ j, j < w4.heap.size → ∀ o, w4.heap[j]? = some o → W.heap[j]? = some o := fun j hj o ho => h2.heap (show ¬ j = nb by omega) (K5.out.2.2.2.2.heap (fun x => x) ho)
          have cW : W.cell? ⟨WB, 0, none⟩ = some (.slice va N vc) := blk_cell (hW WB (heap_lt H4.out.2.2.1) _ H4.out.2.2.1) 0
          have cF : W.cell? ⟨w0.heap.size, 0, none⟩ = some (.int .i64 few) := blk_cell (hW _ (heap_lt H4.out.2.2.2.2.1) _ H4.out.2.2.2.2.1) 0
          have cR : W.cell? ⟨rb, 0, none⟩ = some (.int .i64 0) := blk_cell (h2.heap (show ¬ rb = nb by omega) K5.out.2.2.2.1) 0
          have t6 : ((pl : Int) != few) = false := by rw [h01]; simp
          have HD := Lib.hid hK
          have HB := Lib.hid h2
          clear h1 h2 hW hK h01 hpl hp
          by_cases hnN : pl = N
          · have t5 : ((pl : Int) != (N : Int)) = false := by simp [hnN]
            clear hnN
            gi_wp2_with fail
            have k4W : KB F0 w4 W := K5.out.2.2.2.2.above HB.out (fun i e => by omega)
            have hD0 : w4.heap.size ≤ D := by have := K5.out.2.1; omega
            obtain ⟨D0, hDD⟩ : ∃ D0, D0 = D := ⟨_, rfl⟩
            rw [← hDD] at HD hD0 ⊢
            clear hDD cN cW cF cR t5 t6
            have HK4 := Lib.hid k4W
            clear k4W
            obtain ⟨rb, hrb⟩ : ∃ rb, rb = W.heap.size := ⟨_, rfl⟩
            obtain ⟨wr, hwr⟩ : ∃ wr, wr = W.alloc (.cells #[.int .i64 1] 3) := ⟨_, rfl⟩
            have KR : Hid (wr.heap[rb]? = some (.cells #[.int .i64 1] 3 (0, 0)) ∧ w4.heap.size ≤ rb ∧ KB F0 w4 wr) := Lib.hid (by
              rw [hrb, hwr]; exact ⟨alloc_new _ _, HK4.out.size, HK4.out.alloc _⟩)
            have HD0 : Hid (wr.heap[D0]? = some (.deferred (some []))) := Lib.hid (by rw [hwr]; exact ((KB.refl F0 W).alloc _).heap (fun x => x) HD.out)
            rw [← hrb, ← hwr]
            have hDrb : D0 < rb := by rw [hrb]; exact heap_lt HD.out
            clear hrb hwr
            rw [roundsIn_succ]
            obtain ⟨nb, hnb⟩ : ∃ nb, nb = wr.heap.size := ⟨_, rfl⟩
            obtain ⟨w5, hw5⟩ : ∃ w5, w5 = wr.alloc (.cells #[.int .i64 0] 3) := ⟨_, rfl⟩
            have k5 : KB F0 wr w5 := by rw [hw5]; exact (KB.refl _ _).alloc _
            have hs5 : w5.heap.size = nb + 1 := by rw [hw5, hnb]; simp
            have n5 : w5.heap[nb]? = some (.cells #[.int .i64 0] 3 (0, 0)) := by rw [hw5, hnb]; exact alloc_new wr _
            have hrb5 : rb < nb := by have := heap_lt KR.out.1; omega
            have h45 := KR.out.2.2.trans k5
            have hs4 := KR.out.2.2.size
            have hrb4 := KR.out.2.1
            have K5 := Lib.hid (And.intro k5 (And.intro hs5 (And.intro n5 (And.intro (k5.heap (fun x => x) KR.out.1) h45))))
            have HW5 := Lib.hid hw5
            have HNB := Lib.hid hnb
            have cR : wr.cell? ⟨rb, 0, none⟩ = some (.int .i64 1) := blk_cell KR.out.1 0
            have tR : decide ((1 : Int) < 2) = true := by decide
            clear hw5 hnb k5 hs5 n5 h45
            gi_wp2_with fail
            rw [← HNB.out, ← HW5.out]
            clear cR tR
            have ST := Lib.hid (each1_stops Fence.wide 19 (by omega) (fun _ => trivial) rfl cb a3 c3 ts (by rw [← HN.out]; omega) w5 (fun j => j = nb) (by have := heap_lt H4.out.1; omega) (fun g off h0 ha hg => by have := H4.out.2.1.lt h0 ha; omega)
              (by rw [← HN.out]; exact blk_cell (K5.out.2.2.2.2.heap (fun x => x) H4.out.1) 0) (H4.out.2.1.kbF K5.out.2.2.2.2))
            refine rangeFuncB (F := Fence.wide) rfl (by omega) (gf := 28) (lb := #[.pointer (some ⟨cb, 0, none⟩)]) rfl trivial (enters_of Tryd.func28 (by kernel_rfl) rfl)
              ST.out KC.trans
              (fun W l o o' _ h ho _ => KC.putObj W l o o' h ho) (Below.refl _ _) (fun _ => rfl)
              (fun pre W => W.heap[nb]? = some (.cells #[.int .i64 (pre.length : Nat)] 3 (0, 0)) ∧ KB (fun j => j = nb) w5 W)
              (fun c pre W => (c = .ret ∧ ¬ pre <+: ts)) ?own2 ?ownx2 ?start2 (fun y tb W => W.heap[tb]? = some (.cells #[.int .u8 (y.k : Nat), .int .i64 y.at_, .int .i64 y.n, .string y.s] 32 (0, 0))) (fun y tb _ A B row h hg hr => own_heap hg hr h rfl) (fun W W' h => (KC.refl _ _).kb h (fun _ x => x.elim)) (fun pre W W' h hk => ⟨hk.heap (fun x => x) h.1, h.2.trans (hk.mono (fun _ _ x => x.elim))⟩) ?rounds2 ?done2 ?stop2
            case own2 =>
              rintro pre A B row ⟨h1, h2⟩ hg hr
              exact ⟨own_heap hg hr h1 rfl, h2.grown hg (fun k e hk => by have := (hr k e).1; omega)⟩
            case ownx2 => exact fun _ => ownFrom_pure _ _
            case start2 => exact ⟨K5.out.2.2.1, KB.refl _ _⟩
            case rounds2 =>
              apply Exists.intro
              refine ⟨?assign2, ?body2⟩
              case assign2 =>
                intro l y W tb K htb hK
                simp only [encT]
                obtain ⟨WT, hWT⟩ : ∃ WT, WT = W.alloc (.cells #[.int .u8 (y.k : Nat), .int .i64 y.at_, .int .i64 y.n, .string y.s] 32) := ⟨_, rfl⟩
                have HA := Lib.hid (hK WT (by rw [hWT]; exact (KB.refl _ _).alloc _) (by rw [hWT]; exact KeepsOthers.alloc _ _) (by rw [hWT, htb]; exact alloc_new _ _))
                have HW := Lib.hid hWT
                have HT := Lib.hid htb
                clear hK hWT htb
                gi_wp2
                rw [← HW.out, ← HT.out]
                exact HA.out
              case body2 =>
                rintro l pre y tb W ⟨h1, h2⟩ hTb _
                obtain ⟨pl, hpl⟩ : ∃ pl, pl = pre.length := ⟨_, rfl⟩
                have hW : ∀ j, j < w4.heap.size → ∀ o, w4.heap[j]? = some o → W.heap[j]? = some o := fun j hj o ho => h2.heap (show ¬ j = nb by omega) (K5.out.2.2.2.2.heap (fun x => x) ho)
                have cN : W.cell? ⟨nb, 0, none⟩ = some (.int .i64 (pl : Nat)) := by rw [hpl]; exact blk_cell h1 0
                have fN : W.frozen? ⟨nb, 0, none⟩ = false := blk_frozen h1 0
                have cW : W.cell? ⟨WB, 0, none⟩ = some (.slice va N vc) := blk_cell (hW WB (heap_lt H4.out.2.2.1) _ H4.out.2.2.1) 0
                have cF : W.cell? ⟨w0.heap.size, 0, none⟩ = some (.int .i64 few) := blk_cell (hW _ (heap_lt H4.out.2.2.2.2.1) _ H4.out.2.2.2.2.1) 0
                have cQ : W.cell? ⟨w0.heap.size + 1, 0, none⟩ = some (.bool false) := blk_cell (hW _ (heap_lt H4.out.2.2.2.2.2.1) _ H4.out.2.2.2.2.2.1) 0
                have fQ : W.frozen? ⟨w0.heap.size + 1, 0, none⟩ = false := blk_frozen (hW _ (heap_lt H4.out.2.2.2.2.2.1) _ H4.out.2.2.2.2.2.1) 0
                have cR : W.cell? ⟨rb, 0, none⟩ = some (.int .i64 1) := blk_cell (h2.heap (show ¬ rb = nb by omega) K5.out.2.2.2.1) 0
                have hWt : KB (fun j => j = nb) w4 W := (K5.out.2.2.2.2.mono (fun _ _ x => x.elim)).trans h2
                have HT := Lib.hid (ToksAt.kbS H4.out.2.2.2.1 hWt (fun g off h0 ha hg => by have := H4.out.2.2.2.1.lt h0 ha; omega))
                have HB := Lib.hid (And.intro h1 h2)
                rw [← hpl] at HB
                have HPL := Lib.hid hpl
                have x0 : W.cell? ⟨tb, 0, none⟩ = some (.int .u8 (y.k : Nat)) := blk_cell hTb 0
                have x1 : W.cell? ⟨tb, 1, none⟩ = some (.int .i64 y.at_) := blk_cell hTb 1
                have x2 : W.cell? ⟨tb, 2, none⟩ = some (.int .i64 y.n) := blk_cell hTb 2
                have x3 : W.cell? ⟨tb, 3, none⟩ = some (.string y.s) := blk_cell hTb 3
                clear h1 h2 hW hpl hWt hTb
                gi_wp2_with fail
                by_cases hge : N ≤ pl
                · have hnot : Hid (¬ (pre ++ [y]) <+: ts) := Lib.hid (fun h => by have := h.length_le; rw [List.length_append, ← HPL.out, ← HN.out] at this; simp at this; omega)
                  have t0 : decide ((N : Int) ≤ (pl : Int)) = true := decide_eq_true (by omega)
                  have t0n : decide (N ≤ pl) = true := decide_eq_true hge
                  refine wpIn_region_rv 12 GQ (kindV []) (lets_wide.inRound l) (by kernel_rfl) (by kernel_rfl) (by kernel_rfl) GQ.trans GQ.refl (GQ.start _) (kindV_mono _) ?_
                  simp only [List.take_succ_cons, List.take_zero, List.drop_succ_cons, List.drop_zero]
                  iterate 5 (refine rv_det (by kernel_rfl) rfl (by intro w hG hH; obtain ⟨n, rfl⟩ := hG; go_simp; first | done | with_reducible rfl) ?_; simp only [Act.put, List.setIfInBounds_toArray, List.set_cons_zero, List.set_cons_succ])
                  iterate 6 (refine rv_skip (by kernel_rfl) ?_; simp only [Act.put, List.setIfInBounds_toArray, List.set_cons_zero, List.set_cons_succ])
                  refine rv_det (by kernel_rfl) rfl (by intro w hG hH; obtain ⟨n, rfl⟩ := hG; go_simp; first | done | with_reducible rfl) ?_
                  simp only [Act.put, List.setIfInBounds_toArray, List.set_cons_zero, List.set_cons_succ]
                  refine rv_nil (fun w hG hH => ?_)
                  obtain ⟨n, rfl⟩ := hG
                  clear hH
                  have cQn : (W.drewN n).cell? ⟨w0.heap.size + 1, 0, none⟩ = some (.bool false) := cQ
                  have fQn : (W.drewN n).frozen? ⟨w0.heap.size + 1, 0, none⟩ = false := fQ
                  gi_wp2_with fail
                  exact ⟨KeepsOthers.trans (⟨Nat.le_refl _, fun _ _ h _ => h⟩ : KeepsOthers W (W.drewN n)) (KeepsOthers.setCell _ _ _), ⟨rfl, hnot.out⟩⟩
                · have t0 : decide ((N : Int) ≤ (pl : Int)) = false := decide_eq_false (by omega)
                  have t0n : decide (N ≤ pl) = false := decide_eq_false hge
                  have t0p : ¬ N ≤ pl := hge
                  have tpl : (pl : Int) < (N : Int) := by omega
                  have hplN : (pl : Int) < 20000 := by omega
                  obtain ⟨gw, ow, rfl, hq⟩ := HT.out pl (by rw [← HN.out]; omega)
                  have HGD := Lib.hid (fun (h : pre ++ [y] <+: ts) => (show ts.getD pl tk0 = y by rw [HPL.out]; exact getD_pre h))
                  generalize ts.getD pl tk0 = q at hq HGD
                  have e0 := hq.k
                  have e1 := hq.at_
                  have e2 := hq.n
                  have e3 := hq.s
                  clear hq
                  by_cases hqy : y = q
                  · rw [← hqy] at e0 e1 e2 e3
                    refine wpIn_region_rv 12 GQ (kindV []) (lets_wide.inRound l) (by kernel_rfl) (by kernel_rfl) (by kernel_rfl) GQ.trans GQ.refl (GQ.start _) (kindV_mono _) ?_
                    simp only [List.take_succ_cons, List.take_zero, List.drop_succ_cons, List.drop_zero]
                    iterate 12 (refine rv_det (by kernel_rfl) rfl (by intro w hG hH; obtain ⟨n, rfl⟩ := hG; go_simp; first | done | with_reducible rfl) ?_; simp only [Act.put, List.setIfInBounds_toArray, List.set_cons_zero, List.set_cons_succ])
                    refine rv_nil (fun w hG hH => ?_)
                    obtain ⟨n, rfl⟩ := hG
                    clear hH
                    have cNn : (W.drewN n).cell? ⟨nb, 0, none⟩ = some (.int .i64 (pl : Nat)) := cN
                    have fNn : (W.drewN n).frozen? ⟨nb, 0, none⟩ = false := fN
                    have cFn : (W.drewN n).cell? ⟨w0.heap.size, 0, none⟩ = some (.int .i64 few) := cF
                    have cRn : (W.drewN n).cell? ⟨rb, 0, none⟩ = some (.int .i64 1) := cR
                    have hko : KeepsOthers W ((W.drewN n).setCell ⟨nb, 0, none⟩ (.int .i64 ((pl : Int) + 1))) := KeepsOthers.trans (⟨Nat.le_refl _, fun _ _ h _ => h⟩ : KeepsOthers W (W.drewN n)) (KeepsOthers.setCell _ _ _)
                    have hkc : KC (fun j => j = nb) W ((W.drewN n).setCell ⟨nb, 0, none⟩ (.int .i64 ((pl : Int) + 1))) := ((KC.refl (fun j => j = nb) W).kb ((KB.refl F0 W).drewN n) (fun _ x => x.elim)).setCell (a := ⟨nb, 0, none⟩) rfl _
                    have hfin : ((W.drewN n).setCell ⟨nb, 0, none⟩ (.int .i64 ((pl : Int) + 1))).heap[nb]? = some (.cells #[.int .i64 ((pre ++ [y]).length : Nat)] 3 (0, 0)) := by
                      rw [List.length_append, ← HPL.out]
                      exact set0_cell (((KB.refl F0 W).drewN n).heap (fun x => x) HB.out.1)
                    have hkb : KB (fun j => j = nb) w5 ((W.drewN n).setCell ⟨nb, 0, none⟩ (.int .i64 ((pl : Int) + 1))) := (HB.out.2.drewN n).setCell (p := ⟨nb, 0, none⟩) (fun _ => rfl) _
                    have HF := Lib.hid (And.intro hko (And.intro hkc (And.intro hfin hkb)))
                    have hF1 : w0.heap.size < nb := by have := heap_lt H4.out.2.2.2.2.1; omega
                    have hF2 : w0.heap.size ≠ nb := by omega
                    clear hko hkc hfin hkb hqy HGD
                    gi_wp2_with fail
                    exact ⟨HF.out.1, HF.out.2.1, HF.out.2.2⟩
                  · have hnot : Hid (¬ (pre ++ [y]) <+: ts) := Lib.hid (fun h => hqy (HGD.out h).symm)
                    obtain ⟨yk, ya, yn, ys⟩ := y
                    obtain ⟨qk, qa, qn, qs⟩ := q
                    simp only at e0 e1 e2 e3 x0 x1 x2 x3
                    by_cases f0 : yk = qk
                    · subst f0
                      by_cases f1 : ya = qa
                      · subst f1
                        by_cases f2 : yn = qn
                        · subst f2
                          by_cases f3 : ys = qs
                          · subst f3; exact (hqy rfl).elim
                          · have t1 : (ys.toList == qs.toList) = false := by rw [tl_beq]; exact decide_eq_false f3
                            clear f3 hqy HGD
                            refine wpIn_region_rv 12 GQ (kindV []) (lets_wide.inRound l) (by kernel_rfl) (by kernel_rfl) (by kernel_rfl) GQ.trans GQ.refl (GQ.start _) (kindV_mono _) ?_
                            simp only [List.take_succ_cons, List.take_zero, List.drop_succ_cons, List.drop_zero]
                            iterate 12 (refine rv_det (by kernel_rfl) rfl (by intro w hG hH; obtain ⟨n, rfl⟩ := hG; go_simp; first | done | with_reducible rfl) ?_; simp only [Act.put, List.setIfInBounds_toArray, List.set_cons_zero, List.set_cons_succ])
                            refine rv_nil (fun w hG hH => ?_)
                            obtain ⟨n, rfl⟩ := hG
                            clear hH
                            have cQn : (W.drewN n).cell? ⟨w0.heap.size + 1, 0, none⟩ = some (.bool false) := cQ
                            have fQn : (W.drewN n).frozen? ⟨w0.heap.size + 1, 0, none⟩ = false := fQ
                            gi_wp2_with fail
                            exact ⟨KeepsOthers.trans (⟨Nat.le_refl _, fun _ _ h _ => h⟩ : KeepsOthers W (W.drewN n)) (KeepsOthers.setCell _ _ _), ⟨rfl, hnot.out⟩⟩
                        · have t1 : (yn == qn) = false := by simpa using f2
                          clear f2 hqy HGD
                          refine wpIn_region_rv 12 GQ (kindV []) (lets_wide.inRound l) (by kernel_rfl) (by kernel_rfl) (by kernel_rfl) GQ.trans GQ.refl (GQ.start _) (kindV_mono _) ?_
                          simp only [List.take_succ_cons, List.take_zero, List.drop_succ_cons, List.drop_zero]
                          iterate 12 (refine rv_det (by kernel_rfl) rfl (by intro w hG hH; obtain ⟨n, rfl⟩ := hG; go_simp; first | done | with_reducible rfl) ?_; simp only [Act.put, List.setIfInBounds_toArray, List.set_cons_zero, List.set_cons_succ])
                          refine rv_nil (fun w hG hH => ?_)
                          obtain ⟨n, rfl⟩ := hG
                          clear hH
                          have cQn : (W.drewN n).cell? ⟨w0.heap.size + 1, 0, none⟩ = some (.bool false) := cQ
                          have fQn : (W.drewN n).frozen? ⟨w0.heap.size + 1, 0, none⟩ = false := fQ
                          gi_wp2_with fail
                          exact ⟨KeepsOthers.trans (⟨Nat.le_refl _, fun _ _ h _ => h⟩ : KeepsOthers W (W.drewN n)) (KeepsOthers.setCell _ _ _), ⟨rfl, hnot.out⟩⟩
                      · have t1 : (ya == qa) = false := by simpa using f1
                        clear f1 hqy HGD
                        refine wpIn_region_rv 12 GQ (kindV []) (lets_wide.inRound l) (by kernel_rfl) (by kernel_rfl) (by kernel_rfl) GQ.trans GQ.refl (GQ.start _) (kindV_mono _) ?_
                        simp only [List.take_succ_cons, List.take_zero, List.drop_succ_cons, List.drop_zero]
                        iterate 12 (refine rv_det (by kernel_rfl) rfl (by intro w hG hH; obtain ⟨n, rfl⟩ := hG; go_simp; first | done | with_reducible rfl) ?_; simp only [Act.put, List.setIfInBounds_toArray, List.set_cons_zero, List.set_cons_succ])
                        refine rv_nil (fun w hG hH => ?_)
                        obtain ⟨n, rfl⟩ := hG
                        clear hH
                        have cQn : (W.drewN n).cell? ⟨w0.heap.size + 1, 0, none⟩ = some (.bool false) := cQ
                        have fQn : (W.drewN n).frozen? ⟨w0.heap.size + 1, 0, none⟩ = false := fQ
                        gi_wp2_with fail
                        exact ⟨KeepsOthers.trans (⟨Nat.le_refl _, fun _ _ h _ => h⟩ : KeepsOthers W (W.drewN n)) (KeepsOthers.setCell _ _ _), ⟨rfl, hnot.out⟩⟩
                    · have t1 : ((yk : Int) == (qk : Int)) = false := by simp; omega
                      clear f0 hqy HGD
                      refine wpIn_region_rv 12 GQ (kindV []) (lets_wide.inRound l) (by kernel_rfl) (by kernel_rfl) (by kernel_rfl) GQ.trans GQ.refl (GQ.start _) (kindV_mono _) ?_
                      simp only [List.take_succ_cons, List.take_zero, List.drop_succ_cons, List.drop_zero]
                      iterate 12 (refine rv_det (by kernel_rfl) rfl (by intro w hG hH; obtain ⟨n, rfl⟩ := hG; go_simp; first | done | with_reducible rfl) ?_; simp only [Act.put, List.setIfInBounds_toArray, List.set_cons_zero, List.set_cons_succ])
                      refine rv_nil (fun w hG hH => ?_)
                      obtain ⟨n, rfl⟩ := hG
                      clear hH
                      have cQn : (W.drewN n).cell? ⟨w0.heap.size + 1, 0, none⟩ = some (.bool false) := cQ
                      have fQn : (W.drewN n).frozen? ⟨w0.heap.size + 1, 0, none⟩ = false := fQ
                      gi_wp2_with fail
                      exact ⟨KeepsOthers.trans (⟨Nat.le_refl _, fun _ _ h _ => h⟩ : KeepsOthers W (W.drewN n)) (KeepsOthers.setCell _ _ _), ⟨rfl, hnot.out⟩⟩
            case stop2 =>
              rintro D c pre W hD hp ⟨-, h⟩ hK
              exact (h hp).elim
            case done2 =>
              rintro D ys W hD hys ⟨h1, h2⟩ hK
              rw [hys, ← HN.out] at h1
              clear hys
              have cN : W.cell? ⟨nb, 0, none⟩ = some (.int .i64 (N : Nat)) := blk_cell h1 0
              have hW : ∀ j, j < w4.heap.size → ∀ o, w4.heap[j]? = some o → W.heap[j]? = some o := fun j hj o ho => h2.heap (show ¬ j = nb by omega) (K5.out.2.2.2.2.heap (fun x => x) ho)
              have cW : W.cell? ⟨WB, 0, none⟩ = some (.slice va N vc) := blk_cell (hW WB (heap_lt H4.out.2.2.1) _ H4.out.2.2.1) 0
              have cF : W.cell? ⟨w0.heap.size, 0, none⟩ = some (.int .i64 few) := blk_cell (hW _ (heap_lt H4.out.2.2.2.2.1) _ H4.out.2.2.2.2.1) 0
              have cR : W.cell? ⟨rb, 0, none⟩ = some (.int .i64 1) := blk_cell (h2.heap (show ¬ rb = nb by omega) K5.out.2.2.2.1) 0
              have t5 : ((N : Int) != (N : Int)) = false := by simp
              have hD0W : W.heap[D0]? = some (.deferred (some [])) := h2.heap (show ¬ D0 = nb by omega) (K5.out.1.heap (fun x => x) HD0.out)
              have k4W : KB F0 w4 W := K5.out.2.2.2.2.above h2 (fun i e => by omega)
              have hneD : D0 ≠ D := by have := K5.out.2.1; omega
              have hRW := hW _ (heap_lt H4.out.2.2.2.2.2.1) _ H4.out.2.2.2.2.2.1
              have HB := Lib.hid (And.intro hK (And.intro hD0W (And.intro k4W hRW)))
              have hs9 := k4W.size
              have hDW := heap_lt hK
              clear h1 h2 hW hK hD0W k4W hRW
              gi_wp2_with fail
              rw [roundsIn_succ]
              obtain ⟨rb2, hrb2⟩ : ∃ rb2, rb2 = W.heap.size := ⟨_, rfl⟩
              obtain ⟨wr2, hwr2⟩ : ∃ wr2, wr2 = W.alloc (.cells #[.int .i64 2] 3) := ⟨_, rfl⟩
              have k6 : KB F0 W wr2 := by rw [hwr2]; exact (KB.refl _ _).alloc _
              have cR2 : wr2.cell? ⟨rb2, 0, none⟩ = some (.int .i64 2) := by rw [hrb2, hwr2]; exact blk_cell (alloc_new W (.cells #[.int .i64 2] 3)) 0
              rw [← hrb2, ← hwr2]
              have HE := Lib.hid (And.intro (k6.heap (fun x => x) HB.out.1) (And.intro (k6.heap (fun x => x) HB.out.2.1) (HB.out.2.2.1.trans k6)))
              clear hrb2 hwr2 k6 cN cW cF cR t5
              gi_wp2_with fail
              refine callW (AW.out wr2 (H4.out.2.2.2.2.2.2.trans HE.out.2.2)) ?_
              rintro e w9 ⟨rfl, k9⟩
              have k09 : KB F0 w4 w9 := HE.out.2.2.trans k9
              have hRw := k09.heap (fun x => x) H4.out.2.2.2.2.2.1
              have cQ : w9.cell? ⟨w0.heap.size + 1, 0, none⟩ = some (.bool false) := blk_cell hRw 0
              have fQ : w9.frozen? ⟨w0.heap.size + 1, 0, none⟩ = false := blk_frozen hRw 0
              have HE9 := Lib.hid (And.intro (k9.heap (fun x => x) HE.out.1) (And.intro (k9.heap (fun x => x) HE.out.2.1) (H4.out.2.2.2.2.2.2.trans k09)))
              clear k9 hRw k09
              gi_wp2_with fail
              have hc := World.cell?_setCell_same' w9 ⟨w0.heap.size + 1, 0, none⟩ (.bool true) (by rw [cQ]; rfl)
              have hFD : w0.heap.size + 1 < D0 ∧ w0.heap.size + 1 < D := by have := K5.out.2.1; have := heap_lt H4.out.2.2.2.2.2.1; omega
              have hd1 : (w9.setCell ⟨w0.heap.size + 1, 0, none⟩ (.bool true)).heap[D]? = some (.deferred (some [])) := (Below.heap_setCell w9 ⟨w0.heap.size + 1, 0, none⟩ _ D (by show D ≠ w0.heap.size + 1; omega)).trans HE9.out.1
              have hd0 : (w9.setCell ⟨w0.heap.size + 1, 0, none⟩ (.bool true)).heap[D0]? = some (.deferred (some [])) := (Below.heap_setCell w9 ⟨w0.heap.size + 1, 0, none⟩ _ D0 (by show D0 ≠ w0.heap.size + 1; omega)).trans HE9.out.2.1
              have k9 : KB F0 w0 (w9.setCell ⟨w0.heap.size + 1, 0, none⟩ (.bool true)) := HE9.out.2.2.setCell (p := ⟨w0.heap.size + 1, 0, none⟩) (fun hh => by have h1 : w0.heap.size + 1 < w0.heap.size := hh; omega) _
              refine ⟨by simp, .inl ⟨_, _, rfl, run_takeDeferred hd1, ?_⟩⟩
              refine ⟨by simp, .inl ⟨_, _, rfl, run_takeDeferred ((World.putObj_heap_other hneD).trans hd0), ?_⟩⟩
              refine ⟨.bool true, results_cell rfl _ rfl ((World.cell?_of_block (World.putObj_heap_other (k := w0.heap.size + 1) (by omega))).trans ((World.cell?_of_block (World.putObj_heap_other (k := w0.heap.size + 1) (by omega))).trans hc)), rfl, ?_⟩
              exact (k9.putObjF D _ (by omega)).putObjF D0 _ (by omega)
          · have t5 : ((pl : Int) != (N : Int)) = true := by simp; omega
            clear hnN
            gi_wp2_with fail
            have k4W : KB F0 w4 W := K5.out.2.2.2.2.above HB.out (fun i e => by omega)
            have hD0 : w4.heap.size ≤ D := by have := K5.out.2.1; omega
            obtain ⟨D0, hDD⟩ : ∃ D0, D0 = D := ⟨_, rfl⟩
            rw [← hDD] at HD hD0 ⊢
            clear hDD cN cW cF cR t5 t6
            have HK4 := Lib.hid k4W
            clear k4W
            obtain ⟨rb, hrb⟩ : ∃ rb, rb = W.heap.size := ⟨_, rfl⟩
            obtain ⟨wr, hwr⟩ : ∃ wr, wr = W.alloc (.cells #[.int .i64 1] 3) := ⟨_, rfl⟩
            have KR : Hid (wr.heap[rb]? = some (.cells #[.int .i64 1] 3 (0, 0)) ∧ w4.heap.size ≤ rb ∧ KB F0 w4 wr) := Lib.hid (by
              rw [hrb, hwr]; exact ⟨alloc_new _ _, HK4.out.size, HK4.out.alloc _⟩)
            have HD0 : Hid (wr.heap[D0]? = some (.deferred (some []))) := Lib.hid (by rw [hwr]; exact ((KB.refl F0 W).alloc _).heap (fun x => x) HD.out)
            rw [← hrb, ← hwr]
            have hDrb : D0 < rb := by rw [hrb]; exact heap_lt HD.out
            clear hrb hwr
            rw [roundsIn_succ]
            obtain ⟨nb, hnb⟩ : ∃ nb, nb = wr.heap.size := ⟨_, rfl⟩
            obtain ⟨w5, hw5⟩ : ∃ w5, w5 = wr.alloc (.cells #[.int .i64 0] 3) := ⟨_, rfl⟩
            have k5 : KB F0 wr w5 := by rw [hw5]; exact (KB.refl _ _).alloc _
            have hs5 : w5.heap.size = nb + 1 := by rw [hw5, hnb]; simp
            have n5 : w5.heap[nb]? = some (.cells #[.int .i64 0] 3 (0, 0)) := by rw [hw5, hnb]; exact alloc_new wr _
            have hrb5 : rb < nb := by have := heap_lt KR.out.1; omega
            have h45 := KR.out.2.2.trans k5
            have hs4 := KR.out.2.2.size
            have hrb4 := KR.out.2.1
            have K5 := Lib.hid (And.intro k5 (And.intro hs5 (And.intro n5 (And.intro (k5.heap (fun x => x) KR.out.1) h45))))
            have HW5 := Lib.hid hw5
            have HNB := Lib.hid hnb
            have cR : wr.cell? ⟨rb, 0, none⟩ = some (.int .i64 1) := blk_cell KR.out.1 0
            have tR : decide ((1 : Int) < 2) = true := by decide
            clear hw5 hnb k5 hs5 n5 h45
            gi_wp2_with fail
            rw [← HNB.out, ← HW5.out]
            clear cR tR
            have ST := Lib.hid (each1_stops Fence.wide 19 (by omega) (fun _ => trivial) rfl cb a3 c3 ts (by rw [← HN.out]; omega) w5 (fun j => j = nb) (by have := heap_lt H4.out.1; omega) (fun g off h0 ha hg => by have := H4.out.2.1.lt h0 ha; omega)
              (by rw [← HN.out]; exact blk_cell (K5.out.2.2.2.2.heap (fun x => x) H4.out.1) 0) (H4.out.2.1.kbF K5.out.2.2.2.2))
            refine rangeFuncB (F := Fence.wide) rfl (by omega) (gf := 28) (lb := #[.pointer (some ⟨cb, 0, none⟩)]) rfl trivial (enters_of Tryd.func28 (by kernel_rfl) rfl)
              ST.out KC.trans
              (fun W l o o' _ h ho _ => KC.putObj W l o o' h ho) (Below.refl _ _) (fun _ => rfl)
              (fun pre W => W.heap[nb]? = some (.cells #[.int .i64 (pre.length : Nat)] 3 (0, 0)) ∧ KB (fun j => j = nb) w5 W)
              (fun c pre W => (c = .ret ∧ ¬ pre <+: ts)) ?own3 ?ownx3 ?start3 (fun y tb W => W.heap[tb]? = some (.cells #[.int .u8 (y.k : Nat), .int .i64 y.at_, .int .i64 y.n, .string y.s] 32 (0, 0))) (fun y tb _ A B row h hg hr => own_heap hg hr h rfl) (fun W W' h => (KC.refl _ _).kb h (fun _ x => x.elim)) (fun pre W W' h hk => ⟨hk.heap (fun x => x) h.1, h.2.trans (hk.mono (fun _ _ x => x.elim))⟩) ?rounds3 ?done3 ?stop3
            case own3 =>
              rintro pre A B row ⟨h1, h2⟩ hg hr
              exact ⟨own_heap hg hr h1 rfl, h2.grown hg (fun k e hk => by have := (hr k e).1; omega)⟩
            case ownx3 => exact fun _ => ownFrom_pure _ _
            case start3 => exact ⟨K5.out.2.2.1, KB.refl _ _⟩
            case rounds3 =>
              apply Exists.intro
              refine ⟨?assign3, ?body3⟩
              case assign3 =>
                intro l y W tb K htb hK
                simp only [encT]
                obtain ⟨WT, hWT⟩ : ∃ WT, WT = W.alloc (.cells #[.int .u8 (y.k : Nat), .int .i64 y.at_, .int .i64 y.n, .string y.s] 32) := ⟨_, rfl⟩
                have HA := Lib.hid (hK WT (by rw [hWT]; exact (KB.refl _ _).alloc _) (by rw [hWT]; exact KeepsOthers.alloc _ _) (by rw [hWT, htb]; exact alloc_new _ _))
                have HW := Lib.hid hWT
                have HT := Lib.hid htb
                clear hK hWT htb
                gi_wp2
                rw [← HW.out, ← HT.out]
                exact HA.out
              case body3 =>
                rintro l pre y tb W ⟨h1, h2⟩ hTb _
                obtain ⟨pl, hpl⟩ : ∃ pl, pl = pre.length := ⟨_, rfl⟩
                have hW : ∀ j, j < w4.heap.size → ∀ o, w4.heap[j]? = some o → W.heap[j]? = some o := fun j hj o ho => h2.heap (show ¬ j = nb by omega) (K5.out.2.2.2.2.heap (fun x => x) ho)
                have cN : W.cell? ⟨nb, 0, none⟩ = some (.int .i64 (pl : Nat)) := by rw [hpl]; exact blk_cell h1 0
                have fN : W.frozen? ⟨nb, 0, none⟩ = false := blk_frozen h1 0
                have cW : W.cell? ⟨WB, 0, none⟩ = some (.slice va N vc) := blk_cell (hW WB (heap_lt H4.out.2.2.1) _ H4.out.2.2.1) 0
                have cF : W.cell? ⟨w0.heap.size, 0, none⟩ = some (.int .i64 few) := blk_cell (hW _ (heap_lt H4.out.2.2.2.2.1) _ H4.out.2.2.2.2.1) 0
                have cQ : W.cell? ⟨w0.heap.size + 1, 0, none⟩ = some (.bool false) := blk_cell (hW _ (heap_lt H4.out.2.2.2.2.2.1) _ H4.out.2.2.2.2.2.1) 0
                have fQ : W.frozen? ⟨w0.heap.size + 1, 0, none⟩ = false := blk_frozen (hW _ (heap_lt H4.out.2.2.2.2.2.1) _ H4.out.2.2.2.2.2.1) 0
                have cR : W.cell? ⟨rb, 0, none⟩ = some (.int .i64 1) := blk_cell (h2.heap (show ¬ rb = nb by omega) K5.out.2.2.2.1) 0
                have hWt : KB (fun j => j = nb) w4 W := (K5.out.2.2.2.2.mono (fun _ _ x => x.elim)).trans h2
                have HT := Lib.hid (ToksAt.kbS H4.out.2.2.2.1 hWt (fun g off h0 ha hg => by have := H4.out.2.2.2.1.lt h0 ha; omega))
                have HB := Lib.hid (And.intro h1 h2)
                rw [← hpl] at HB
                have HPL := Lib.hid hpl
                have x0 : W.cell? ⟨tb, 0, none⟩ = some (.int .u8 (y.k : Nat)) := blk_cell hTb 0
                have x1 : W.cell? ⟨tb, 1, none⟩ = some (.int .i64 y.at_) := blk_cell hTb 1
                have x2 : W.cell? ⟨tb, 2, none⟩ = some (.int .i64 y.n) := blk_cell hTb 2
                have x3 : W.cell? ⟨tb, 3, none⟩ = some (.string y.s) := blk_cell hTb 3
                clear h1 h2 hW hpl hWt hTb
                gi_wp2_with fail
                by_cases hge : N ≤ pl
                · have hnot : Hid (¬ (pre ++ [y]) <+: ts) := Lib.hid (fun h => by have := h.length_le; rw [List.length_append, ← HPL.out, ← HN.out] at this; simp at this; omega)
                  have t0 : decide ((N : Int) ≤ (pl : Int)) = true := decide_eq_true (by omega)
                  have t0n : decide (N ≤ pl) = true := decide_eq_true hge
                  refine wpIn_region_rv 12 GQ (kindV []) (lets_wide.inRound l) (by kernel_rfl) (by kernel_rfl) (by kernel_rfl) GQ.trans GQ.refl (GQ.start _) (kindV_mono _) ?_
                  simp only [List.take_succ_cons, List.take_zero, List.drop_succ_cons, List.drop_zero]
                  iterate 5 (refine rv_det (by kernel_rfl) rfl (by intro w hG hH; obtain ⟨n, rfl⟩ := hG; go_simp; first | done | with_reducible rfl) ?_; simp only [Act.put, List.setIfInBounds_toArray, List.set_cons_zero, List.set_cons_succ])
                  iterate 6 (refine rv_skip (by kernel_rfl) ?_; simp only [Act.put, List.setIfInBounds_toArray, List.set_cons_zero, List.set_cons_succ])
                  refine rv_det (by kernel_rfl) rfl (by intro w hG hH; obtain ⟨n, rfl⟩ := hG; go_simp; first | done | with_reducible rfl) ?_
                  simp only [Act.put, List.setIfInBounds_toArray, List.set_cons_zero, List.set_cons_succ]
                  refine rv_nil (fun w hG hH => ?_)
                  obtain ⟨n, rfl⟩ := hG
                  clear hH
                  have cQn : (W.drewN n).cell? ⟨w0.heap.size + 1, 0, none⟩ = some (.bool false) := cQ
                  have fQn : (W.drewN n).frozen? ⟨w0.heap.size + 1, 0, none⟩ = false := fQ
                  gi_wp2_with fail
                  exact ⟨KeepsOthers.trans (⟨Nat.le_refl _, fun _ _ h _ => h⟩ : KeepsOthers W (W.drewN n)) (KeepsOthers.setCell _ _ _), ⟨rfl, hnot.out⟩⟩
                · have t0 : decide ((N : Int) ≤ (pl : Int)) = false := decide_eq_false (by omega)
                  have t0n : decide (N ≤ pl) = false := decide_eq_false hge
                  have t0p : ¬ N ≤ pl := hge
                  have tpl : (pl : Int) < (N : Int) := by omega
                  have hplN : (pl : Int) < 20000 := by omega
                  obtain ⟨gw, ow, rfl, hq⟩ := HT.out pl (by rw [← HN.out]; omega)
                  have HGD := Lib.hid (fun (h : pre ++ [y] <+: ts) => (show ts.getD pl tk0 = y by rw [HPL.out]; exact getD_pre h))
                  generalize ts.getD pl tk0 = q at hq HGD
                  have e0 := hq.k
                  have e1 := hq.at_
                  have e2 := hq.n
                  have e3 := hq.s
                  clear hq
                  by_cases hqy : y = q
                  · rw [← hqy] at e0 e1 e2 e3
                    refine wpIn_region_rv 12 GQ (kindV []) (lets_wide.inRound l) (by kernel_rfl) (by kernel_rfl) (by kernel_rfl) GQ.trans GQ.refl (GQ.start _) (kindV_mono _) ?_
                    simp only [List.take_succ_cons, List.take_zero, List.drop_succ_cons, List.drop_zero]
                    iterate 12 (refine rv_det (by kernel_rfl) rfl (by intro w hG hH; obtain ⟨n, rfl⟩ := hG; go_simp; first | done | with_reducible rfl) ?_; simp only [Act.put, List.setIfInBounds_toArray, List.set_cons_zero, List.set_cons_succ])
                    refine rv_nil (fun w hG hH => ?_)
                    obtain ⟨n, rfl⟩ := hG
                    clear hH
                    have cNn : (W.drewN n).cell? ⟨nb, 0, none⟩ = some (.int .i64 (pl : Nat)) := cN
                    have fNn : (W.drewN n).frozen? ⟨nb, 0, none⟩ = false := fN
                    have cFn : (W.drewN n).cell? ⟨w0.heap.size, 0, none⟩ = some (.int .i64 few) := cF
                    have cRn : (W.drewN n).cell? ⟨rb, 0, none⟩ = some (.int .i64 1) := cR
                    have hko : KeepsOthers W ((W.drewN n).setCell ⟨nb, 0, none⟩ (.int .i64 ((pl : Int) + 1))) := KeepsOthers.trans (⟨Nat.le_refl _, fun _ _ h _ => h⟩ : KeepsOthers W (W.drewN n)) (KeepsOthers.setCell _ _ _)
                    have hkc : KC (fun j => j = nb) W ((W.drewN n).setCell ⟨nb, 0, none⟩ (.int .i64 ((pl : Int) + 1))) := ((KC.refl (fun j => j = nb) W).kb ((KB.refl F0 W).drewN n) (fun _ x => x.elim)).setCell (a := ⟨nb, 0, none⟩) rfl _
                    have hfin : ((W.drewN n).setCell ⟨nb, 0, none⟩ (.int .i64 ((pl : Int) + 1))).heap[nb]? = some (.cells #[.int .i64 ((pre ++ [y]).length : Nat)] 3 (0, 0)) := by
                      rw [List.length_append, ← HPL.out]
                      exact set0_cell (((KB.refl F0 W).drewN n).heap (fun x => x) HB.out.1)
                    have hkb : KB (fun j => j = nb) w5 ((W.drewN n).setCell ⟨nb, 0, none⟩ (.int .i64 ((pl : Int) + 1))) := (HB.out.2.drewN n).setCell (p := ⟨nb, 0, none⟩) (fun _ => rfl) _
                    have HF := Lib.hid (And.intro hko (And.intro hkc (And.intro hfin hkb)))
                    have hF1 : w0.heap.size < nb := by have := heap_lt H4.out.2.2.2.2.1; omega
                    have hF2 : w0.heap.size ≠ nb := by omega
                    clear hko hkc hfin hkb hqy HGD
                    gi_wp2_with fail
                    exact ⟨HF.out.1, HF.out.2.1, HF.out.2.2⟩
                  · have hnot : Hid (¬ (pre ++ [y]) <+: ts) := Lib.hid (fun h => hqy (HGD.out h).symm)
                    obtain ⟨yk, ya, yn, ys⟩ := y
                    obtain ⟨qk, qa, qn, qs⟩ := q
                    simp only at e0 e1 e2 e3 x0 x1 x2 x3
                    by_cases f0 : yk = qk
                    · subst f0
                      by_cases f1 : ya = qa
                      · subst f1
                        by_cases f2 : yn = qn
                        · subst f2
                          by_cases f3 : ys = qs
                          · subst f3; exact (hqy rfl).elim
                          · have t1 : (ys.toList == qs.toList) = false := by rw [tl_beq]; exact decide_eq_false f3
                            clear f3 hqy HGD
                            refine wpIn_region_rv 12 GQ (kindV []) (lets_wide.inRound l) (by kernel_rfl) (by kernel_rfl) (by kernel_rfl) GQ.trans GQ.refl (GQ.start _) (kindV_mono _) ?_
                            simp only [List.take_succ_cons, List.take_zero, List.drop_succ_cons, List.drop_zero]
                            iterate 12 (refine rv_det (by kernel_rfl) rfl (by intro w hG hH; obtain ⟨n, rfl⟩ := hG; go_simp; first | done | with_reducible rfl) ?_; simp only [Act.put, List.setIfInBounds_toArray, List.set_cons_zero, List.set_cons_succ])
                            refine rv_nil (fun w hG hH => ?_)
                            obtain ⟨n, rfl⟩ := hG
                            clear hH
                            have cQn : (W.drewN n).cell? ⟨w0.heap.size + 1, 0, none⟩ = some (.bool false) := cQ
                            have fQn : (W.drewN n).frozen? ⟨w0.heap.size + 1, 0, none⟩ = false := fQ
                            gi_wp2_with fail
                            exact ⟨KeepsOthers.trans (⟨Nat.le_refl _, fun _ _ h _ => h⟩ : KeepsOthers W (W.drewN n)) (KeepsOthers.setCell _ _ _), ⟨rfl, hnot.out⟩⟩
                        · have t1 : (yn == qn) = false := by simpa using f2
                          clear f2 hqy HGD
                          refine wpIn_region_rv 12 GQ (kindV []) (lets_wide.inRound l) (by kernel_rfl) (by kernel_rfl) (by kernel_rfl) GQ.trans GQ.refl (GQ.start _) (kindV_mono _) ?_
                          simp only [List.take_succ_cons, List.take_zero, List.drop_succ_cons, List.drop_zero]
                          iterate 12 (refine rv_det (by kernel_rfl) rfl (by intro w hG hH; obtain ⟨n, rfl⟩ := hG; go_simp; first | done | with_reducible rfl) ?_; simp only [Act.put, List.setIfInBounds_toArray, List.set_cons_zero, List.set_cons_succ])
                          refine rv_nil (fun w hG hH => ?_)
                          obtain ⟨n, rfl⟩ := hG
                          clear hH
                          have cQn : (W.drewN n).cell? ⟨w0.heap.size + 1, 0, none⟩ = some (.bool false) := cQ
                          have fQn : (W.drewN n).frozen? ⟨w0.heap.size + 1, 0, none⟩ = false := fQ
                          gi_wp2_with fail
                          exact ⟨KeepsOthers.trans (⟨Nat.le_refl _, fun _ _ h _ => h⟩ : KeepsOthers W (W.drewN n)) (KeepsOthers.setCell _ _ _), ⟨rfl, hnot.out⟩⟩
                      · have t1 : (ya == qa) = false := by simpa using f1
                        clear f1 hqy HGD
                        refine wpIn_region_rv 12 GQ (kindV []) (lets_wide.inRound l) (by kernel_rfl) (by kernel_rfl) (by kernel_rfl) GQ.trans GQ.refl (GQ.start _) (kindV_mono _) ?_
                        simp only [List.take_succ_cons, List.take_zero, List.drop_succ_cons, List.drop_zero]
                        iterate 12 (refine rv_det (by kernel_rfl) rfl (by intro w hG hH; obtain ⟨n, rfl⟩ := hG; go_simp; first | done | with_reducible rfl) ?_; simp only [Act.put, List.setIfInBounds_toArray, List.set_cons_zero, List.set_cons_succ])
                        refine rv_nil (fun w hG hH => ?_)
                        obtain ⟨n, rfl⟩ := hG
                        clear hH
                        have cQn : (W.drewN n).cell? ⟨w0.heap.size + 1, 0, none⟩ = some (.bool false) := cQ
                        have fQn : (W.drewN n).frozen? ⟨w0.heap.size + 1, 0, none⟩ = false := fQ
                        gi_wp2_with fail
                        exact ⟨KeepsOthers.trans (⟨Nat.le_refl _, fun _ _ h _ => h⟩ : KeepsOthers W (W.drewN n)) (KeepsOthers.setCell _ _ _), ⟨rfl, hnot.out⟩⟩
                    · have t1 : ((yk : Int) == (qk : Int)) = false := by simp; omega
                      clear f0 hqy HGD
                      refine wpIn_region_rv 12 GQ (kindV []) (lets_wide.inRound l) (by kernel_rfl) (by kernel_rfl) (by kernel_rfl) GQ.trans GQ.refl (GQ.start _) (kindV_mono _) ?_
                      simp only [List.take_succ_cons, List.take_zero, List.drop_succ_cons, List.drop_zero]
                      iterate 12 (refine rv_det (by kernel_rfl) rfl (by intro w hG hH; obtain ⟨n, rfl⟩ := hG; go_simp; first | done | with_reducible rfl) ?_; simp only [Act.put, List.setIfInBounds_toArray, List.set_cons_zero, List.set_cons_succ])
                      refine rv_nil (fun w hG hH => ?_)
                      obtain ⟨n, rfl⟩ := hG
                      clear hH
                      have cQn : (W.drewN n).cell? ⟨w0.heap.size + 1, 0, none⟩ = some (.bool false) := cQ
                      have fQn : (W.drewN n).frozen? ⟨w0.heap.size + 1, 0, none⟩ = false := fQ
                      gi_wp2_with fail
                      exact ⟨KeepsOthers.trans (⟨Nat.le_refl _, fun _ _ h _ => h⟩ : KeepsOthers W (W.drewN n)) (KeepsOthers.setCell _ _ _), ⟨rfl, hnot.out⟩⟩
            case stop3 =>
              rintro D c pre W hD hp ⟨-, h⟩ hK
              exact (h hp).elim
            case done3 =>
              rintro D ys W hD hys ⟨h1, h2⟩ hK
              rw [hys, ← HN.out] at h1
              clear hys
              have cN : W.cell? ⟨nb, 0, none⟩ = some (.int .i64 (N : Nat)) := blk_cell h1 0
              have hW : ∀ j, j < w4.heap.size → ∀ o, w4.heap[j]? = some o → W.heap[j]? = some o := fun j hj o ho => h2.heap (show ¬ j = nb by omega) (K5.out.2.2.2.2.heap (fun x => x) ho)
              have cW : W.cell? ⟨WB, 0, none⟩ = some (.slice va N vc) := blk_cell (hW WB (heap_lt H4.out.2.2.1) _ H4.out.2.2.1) 0
              have cF : W.cell? ⟨w0.heap.size, 0, none⟩ = some (.int .i64 few) := blk_cell (hW _ (heap_lt H4.out.2.2.2.2.1) _ H4.out.2.2.2.2.1) 0
              have cR : W.cell? ⟨rb, 0, none⟩ = some (.int .i64 1) := blk_cell (h2.heap (show ¬ rb = nb by omega) K5.out.2.2.2.1) 0
              have t5 : ((N : Int) != (N : Int)) = false := by simp
              have hD0W : W.heap[D0]? = some (.deferred (some [])) := h2.heap (show ¬ D0 = nb by omega) (K5.out.1.heap (fun x => x) HD0.out)
              have k4W : KB F0 w4 W := K5.out.2.2.2.2.above h2 (fun i e => by omega)
              have hneD : D0 ≠ D := by have := K5.out.2.1; omega
              have hRW := hW _ (heap_lt H4.out.2.2.2.2.2.1) _ H4.out.2.2.2.2.2.1
              have HB := Lib.hid (And.intro hK (And.intro hD0W (And.intro k4W hRW)))
              have hs9 := k4W.size
              have hDW := heap_lt hK
              clear h1 h2 hW hK hD0W k4W hRW
              gi_wp2_with fail
              rw [roundsIn_succ]
              obtain ⟨rb2, hrb2⟩ : ∃ rb2, rb2 = W.heap.size := ⟨_, rfl⟩
              obtain ⟨wr2, hwr2⟩ : ∃ wr2, wr2 = W.alloc (.cells #[.int .i64 2] 3) := ⟨_, rfl⟩
              have k6 : KB F0 W wr2 := by rw [hwr2]; exact (KB.refl _ _).alloc _
              have cR2 : wr2.cell? ⟨rb2, 0, none⟩ = some (.int .i64 2) := by rw [hrb2, hwr2]; exact blk_cell (alloc_new W (.cells #[.int .i64 2] 3)) 0
              rw [← hrb2, ← hwr2]
              have HE := Lib.hid (And.intro (k6.heap (fun x => x) HB.out.1) (And.intro (k6.heap (fun x => x) HB.out.2.1) (HB.out.2.2.1.trans k6)))
              clear hrb2 hwr2 k6 cN cW cF cR t5
              gi_wp2_with fail
              refine callW (AW.out wr2 (H4.out.2.2.2.2.2.2.trans HE.out.2.2)) ?_
              rintro e w9 ⟨rfl, k9⟩
              have k09 : KB F0 w4 w9 := HE.out.2.2.trans k9
              have hRw := k09.heap (fun x => x) H4.out.2.2.2.2.2.1
              have cQ : w9.cell? ⟨w0.heap.size + 1, 0, none⟩ = some (.bool false) := blk_cell hRw 0
              have fQ : w9.frozen? ⟨w0.heap.size + 1, 0, none⟩ = false := blk_frozen hRw 0
              have HE9 := Lib.hid (And.intro (k9.heap (fun x => x) HE.out.1) (And.intro (k9.heap (fun x => x) HE.out.2.1) (H4.out.2.2.2.2.2.2.trans k09)))
              clear k9 hRw k09
              gi_wp2_with fail
              have hc := World.cell?_setCell_same' w9 ⟨w0.heap.size + 1, 0, none⟩ (.bool true) (by rw [cQ]; rfl)
              have hFD : w0.heap.size + 1 < D0 ∧ w0.heap.size + 1 < D := by have := K5.out.2.1; have := heap_lt H4.out.2.2.2.2.2.1; omega
              have hd1 : (w9.setCell ⟨w0.heap.size + 1, 0, none⟩ (.bool true)).heap[D]? = some (.deferred (some [])) := (Below.heap_setCell w9 ⟨w0.heap.size + 1, 0, none⟩ _ D (by show D ≠ w0.heap.size + 1; omega)).trans HE9.out.1
              have hd0 : (w9.setCell ⟨w0.heap.size + 1, 0, none⟩ (.bool true)).heap[D0]? = some (.deferred (some [])) := (Below.heap_setCell w9 ⟨w0.heap.size + 1, 0, none⟩ _ D0 (by show D0 ≠ w0.heap.size + 1; omega)).trans HE9.out.2.1
              have k9 : KB F0 w0 (w9.setCell ⟨w0.heap.size + 1, 0, none⟩ (.bool true)) := HE9.out.2.2.setCell (p := ⟨w0.heap.size + 1, 0, none⟩) (fun hh => by have h1 : w0.heap.size + 1 < w0.heap.size := hh; omega) _
              refine ⟨by simp, .inl ⟨_, _, rfl, run_takeDeferred hd1, ?_⟩⟩
              refine ⟨by simp, .inl ⟨_, _, rfl, run_takeDeferred ((World.putObj_heap_other hneD).trans hd0), ?_⟩⟩
              refine ⟨.bool true, results_cell rfl _ rfl ((World.cell?_of_block (World.putObj_heap_other (k := w0.heap.size + 1) (by omega))).trans ((World.cell?_of_block (World.putObj_heap_other (k := w0.heap.size + 1) (by omega))).trans hc)), rfl, ?_⟩
              exact (k9.putObjF D _ (by omega)).putObjF D0 _ (by omega)

theorem reads_any (s : ByteArray) (few : Int) (_h1 : -9223372036854775808 ≤ few) (_h2 : few < 9223372036854775808) (w : World) (hT : Tab w) : Calls Tryd.prog 3 #[.string s, .int .i64 few] w fun e w' => e = .returned (.bool true) ∧ KB F0 w w' := by
  by_cases h : 16384 < s.size
  · exact reads_big s few h w hT
  · exact reads_small s few (by omega) w hT
end Go.Proofs.YtcbifoimfhfccaaDoor

/- The law TreeWalks. -/
import Derived.Test.YtjefoojkgocinaaDoorTrWalk1
import Derived.Test.YtjefoojkgocinaaDoorTrUp
import Derived.Test.YtjefoojkgocinaaDoorTrFitA
import Derived.Test.YtjefoojkgocinaaDoorTrAwake
import Derived.Test.YtjefoojkgocinaaDoorTrPartsP
import Derived.Test.YtjefoojkgocinaaDoorRegionK
namespace Go.Proofs.YtjefoojkgocinaaDoor
open Go.RowKit Go.Shelf
attribute [local go_sem] Oper.semAt_some

theorem results_cell {fn : Func} {t : Tmp} (h : fn.results = #[.cell t 4]) (tmps : Array Value) {w : World} {a : Addr} {v : Value} (ha : tmps[t]?.getD undef = .pointer (some a))
    (hc : w.cell? a = some v) : (results fn tmps).run Tryd.prog w = .ok v w := by
  simp [results, h, ha, go_sem, hc]
/-- The law on a range over a function, the frame behind the assignment found on the way. -/
theorem rangeFuncF {F : Fence} {n : Nat} {P : Program} {α : Type} {g : Operand} {ps : Array Tmp} {assign body : Code} {Q : Exit → Act → World → Prop} {a : Act} {w : World}
    (hro : F.round = none) (h1 : 1 ≤ n) {gf : Nat} {lb : Array Value} (hg : a.eval g = .func (.func gf) #[] lb) (hFg : F.fn gf) (eg : ∀ args w, (callFunc gf args).run P w = .ok (.enter gf args) w)
    {encs : α → Array Value} {Kp : World → World → Prop} {S Sp : List α → Prop} {N : Nat} {w0 : World} (hseq : SeqStopsK F (n - 1) P gf lb encs Kp S Sp N w0)
    (hKt : ∀ {A B C : World}, Kp A B → Kp B C → Kp A C) (hKb : ∀ (W : World) (l : Nat) (o o' : Obj), w.heap.size ≤ l → W.heap[l]? = some o → o.isCells = false → o.isWalk = false → Kp W (W.putObj l o')) (hb0 : Below w0.heap.size w0 w) (hps : ∀ x, (encs x).size = ps.size)
    (I : List α → World → Prop) (Ix : Code → List α → World → Prop) (hI : OwnFrom w.heap.size I) (hIx : ∀ c, OwnFrom w.heap.size (Ix c)) (h0 : I [] w)
    (h : ∃ a₁ : α → Act, (∀ (l : Nat) (x : α) (W : World) (K : Act → World → Prop), K (a₁ x) W →
        assign.wpIn (F.inRound l) (n - 1 - 1) P (Exit.then K (fun _ _ _ => False)) { tmps := (ps.zip (encs x)).foldl (fun t (p, v) => t.setIfInBounds p v) a.tmps, defers := [] } W) ∧
      (∀ (l : Nat) (pre : List α) (x : α) (W : World), I pre W → pre.length < N → body.wpIn (F.inRound l) (n - 1 - 1) P (ownPostK Kp I Ix (pre ++ [x]) W) (a₁ x) W))
    (hdone : ∀ (D : Nat) (xs : List α) (W : World), w.heap.size ≤ D → S xs → I xs W → W.heap[D]? = some (.deferred (some [])) → Q .normal { a with defers := { target := .collected D, args := #[] } :: a.defers } W)
    (hstop : ∀ (D : Nat) (c : Code) (pre : List α) (W : World), w.heap.size ≤ D → Sp pre → Ix c pre W → W.heap[D]? = some (.deferred (some [])) → c.wpIn F n P Q { a with defers := { target := .collected D, args := #[] } :: a.defers } W) :
    (Code.rangeFunc g ps assign body).wpIn F n P Q a w := by
  obtain ⟨a₁, ha, hb⟩ := h
  exact wpIn_rangeFunc_ownF hro h1 hg hFg eg hseq hKt hKb hb0 hps I Ix hI hIx h0 a₁ ha hb hdone hstop
theorem own_heap {W W' : World} {row : Option Nat} {B : Nat} (hg : W.grownBy W' row) (hr : ∀ r, row = some r → B ≤ r ∧ ∃ o : Obj, W.heap[r]? = some o ∧ o.isCells = false)
    {k : Nat} {o : Obj} (hk : W.heap[k]? = some o) (ho : o.isCells = true) : W'.heap[k]? = some o := by
  refine (hg.block k (Array.getElem?_eq_some_iff.1 hk).1 ?_).trans hk
  intro e
  obtain ⟨_, o', ho', hc⟩ := hr k e.symm
  rw [hk] at ho'; cases ho'; rw [ho] at hc; cases hc
theorem own_row {W W' : World} {row : Option Nat} {B : Nat} (hg : W.grownBy W' row) (hr : ∀ r, row = some r → B ≤ r ∧ ∃ o : Obj, W.heap[r]? = some o ∧ o.isCells = false)
    {b n z : Nat} {e : TypeId} {v : Value} {xs : List Value} (h : W.ownsRow b e z v n xs) : W'.ownsRow b e z v n xs :=
  own_grown h hg (fun g e1 e2 => by
    obtain ⟨c, h1, -⟩ := own_block h e1
    obtain ⟨-, o, h2, h3⟩ := hr g e2
    rw [h1] at h2; cases h2; cases h3)
theorem own_kbF {w W W' : World} {row : Option Nat} {B : Nat} (h : KB F0 w W) (hB : w.heap.size ≤ B) (hg : W.grownBy W' row) (hr : ∀ r, row = some r → B ≤ r ∧ ∃ o : Obj, W.heap[r]? = some o ∧ o.isCells = false) :
    KB F0 w W' := h.grown hg (fun k e hk => by have := (hr k e).1; omega)
theorem KC.setCell {S : Nat → Prop} {W0 W : World} (h : KC S W0 W) {a : Addr} (ha : S a.block) (v : Value) : KC S W0 (W.setCell a v) :=
  h.trans ⟨by simp, fun k o hk _ hs => (Below.heap_setCell W a v k (fun e => hs (e ▸ ha))).trans hk⟩
theorem KC.kb {S T : Nat → Prop} {A B C : World} (h : KC S A B) (k : KB T B C) (hs : ∀ g, T g → S g) : KC S A C :=
  h.trans ⟨k.size, fun g _o hg _ hn => k.heap (fun x => hn (hs g x)) hg⟩
theorem KC.refl (S : Nat → Prop) (W : World) : KC S W W := ⟨Nat.le_refl _, fun _ _ h _ _ => h⟩
theorem callR {P : Program} {f : FuncId} {args : Array Value} {w : World} {m l : Nat} {R K : Ending → World → Prop} (h : Calls P f args w R) (hk : ∀ e w', R e w' → K e w') :
    (Fence.wide.inRound l).fn f ∧ CallsIn (Fence.wide.inRound l) m P f args w K := ⟨trivial, CallsIn.inRound l ((callsIn_wide.2 h).mono hk)⟩
theorem callW {P : Program} {f : FuncId} {args : Array Value} {w : World} {m : Nat} {R K : Ending → World → Prop} (h : Calls P f args w R) (hk : ∀ e w', R e w' → K e w') :
    Fence.wide.fn f ∧ CallsIn Fence.wide m P f args w K := ⟨trivial, (callsIn_wide.2 h).mono hk⟩

theorem walkL_prefix {d : List Nat} {pre : List (Nat × Nat)} {x : Nat × Nat} (hd : ∀ i, d.getD i 0 < 100000) (hl : pre.length < d.length) (hdl : d.length ≤ 20000) (h : pre ++ [x] <+: walkL d) :
    lo x.1 = pre.length ∧ lo x.2 = d.getD pre.length 0 ∧ ∀ i, i < pre.length → (pre.map fun p => lo p.2).getD i 0 = d.getD i 0 := by
  have h1 := List.prefix_iff_eq_take.1 h
  obtain ⟨n, hn⟩ : ∃ n, n = pre.length := ⟨_, rfl⟩
  rw [List.length_append, List.length_singleton, ← hn, walkL_take (by omega)] at h1
  obtain ⟨h2, h3⟩ := List.append_inj' h1 rfl
  rw [← hn]
  simp only [List.cons.injEq, and_true] at h3
  subst h3
  refine ⟨lo_eq (by show n < 100000; omega), lo_eq (hd n), fun i hi => ?_⟩
  have hid : i < d.length := by omega
  have := hd i
  rw [h2]
  simp only [walkL, List.getD_eq_getElem?_getD, List.getElem?_map, List.getElem?_take, hi, if_true, List.getElem?_range hid, Option.map_some, Option.getD_some]
  rw [List.getD_eq_getElem?_getD] at this
  exact lo_eq this
theorem walkL_snd {d : List Nat} (hd : ∀ i, d.getD i 0 < 100000) : (walkL d).map (fun p => lo p.2) = d := by
  apply List.ext_getElem
  · simp [walkL]
  · intro i h1 h2
    have := hd i
    simp [walkL]
    rw [List.getD_eq_getElem?_getD] at this
    rw [List.getElem?_eq_getElem h2] at this ⊢
    exact lo_eq this
theorem nats_app (l : List Nat) (x : Nat) : nats (l ++ [x]) = nats l ++ [.int .i64 (x : Nat)] := by simp [nats]

set_option maxRecDepth 100000 in
set_option maxHeartbeats 8000000 in
theorem treeWalks_any (ts : List Nd) (hok : ∀ x ∈ ts, NdOk x) (a : Option Addr) (ca : Nat) (hca : ts.length ≤ ca) (hcam : ca ≤ 9223372036854775807) (w : World)
    (h1 : NodesAt w a ts) (hT : Tab w) :
    Calls Tryd.prog 7 #[.agg #[.slice a ts.length ca]] w fun e w' => e = .returned (.bool true) ∧ KB F0 w w' := by
  obtain ⟨w0, rfl⟩ : ∃ w0, w0 = w := ⟨_, rfl⟩
  have F1 := Lib.hid (fun (W : World) (h : KB F0 w0 W) => fits_any ts a ca hca hcam W (h1.kbF h))
  have AW := Lib.hid (fun (W : World) (h : KB F0 w0 W) => awake_any W (hT.kb h))
  have MY := Lib.hid (fun (hb : ts.length ≤ 16392) (W : World) (h : KB F0 w0 W) => may_any ts (by omega) hok a ca W (h1.kbF h) (hT.kb h))
  have UP := Lib.hid (fun (hm : mayN ts = true) (W : World) (h : KB F0 w0 W) => tup_any ts hm hok a ca W (h1.kbF h) (hT.kb h))
  have WK := Lib.hid (fun (hb : ts.length ≤ 16392) (W : World) (h : KB F0 w0 W) => twalk_any ts (by omega) hok a ca W (h1.kbF h) (hT.kb h))
  have SB := Lib.hid (fun (hb : ts.length ≤ 16392) (q : Int) (hq1 : -9223372036854775808 ≤ q) (hq2 : q ≤ 9223372036854775807) (W : World) (h : KB F0 w0 W) => sub_any ts (by omega) hok a ca hca q hq1 hq2 W (h1.kbF h) (hT.kb h))
  have DP := Lib.hid (fun (hb : ts.length ≤ 16392) (W : World) (h : KB F0 w0 W) => tdeepR_any ts (by omega) hok a ca W (h1.kbF h) (hT.kb h))
  obtain ⟨N, hN⟩ : ∃ N, N = ts.length := ⟨_, rfl⟩
  rw [← hN] at F1 MY UP WK SB DP hca ⊢
  have HN := Lib.hid hN
  obtain ⟨X, hX⟩ : ∃ X, X = w0.heap.size := ⟨_, rfl⟩
  obtain ⟨W1, hW1⟩ : ∃ W1, W1 = (w0.alloc (.cells #[.slice a N ca] 31)).alloc (.cells #[.bool false] 4) := ⟨_, rfl⟩
  have k1 : KB F0 w0 W1 := by rw [hW1]; exact ((KB.refl _ _).alloc _).alloc _
  have hs0 : (w0.alloc (.cells #[.slice a N ca] 31)).heap.size = w0.heap.size + 1 := by simp
  have h0h : W1.heap[w0.heap.size]? = some (.cells #[.slice a N ca] 31 (0, 0)) := by rw [hW1]; exact ((KB.refl F0 _).alloc _).heap (fun x => x) (alloc_new _ _)
  have h1h : W1.heap[w0.heap.size + 1]? = some (.cells #[.bool false] 4 (0, 0)) := by rw [hW1, ← hs0]; exact alloc_new _ _
  have H1 := Lib.hid (And.intro k1 (And.intro h0h h1h))
  have HW1 := Lib.hid hW1
  have b0 : W1.cell? ⟨w0.heap.size, 0, none⟩ = some (.slice a N ca) := blk_cell h0h 0
  rw [hW1] at b0
  have FIN := Lib.hid (fun (W : World) (v : Value) (h : KB F0 W1 W) => (show KB F0 w0 (W.setCell ⟨w0.heap.size + 1, 0, none⟩ v) from (k1.trans h).setCell (p := ⟨w0.heap.size + 1, 0, none⟩) (fun hh => by
    have h1 : w0.heap.size + 1 < w0.heap.size := hh; omega) v))
  clear h1 hT hok hN hW1 k1 h0h h1h hX
  refine (callsIn_wide (n := 20)).1 ?_
  refine callsIn_of_wp_marks Tryd.func7 rfl trivial ?_ rfl
  simp only [Tryd.ntmps7, List.size_toArray, List.length_cons, List.length_nil, Nat.reduceAdd, Nat.reduceSub, Array.replicate_succ, Array.replicate_zero, List.push_toArray, List.append_toArray, List.nil_append, List.cons_append]
  gi_wp2_with fail
  rw [← HW1.out]
  refine callW (F1.out W1 H1.out.1) ?_
  rintro e W2 ⟨f1, rfl, hf1, k2⟩
  have Hf1 := Lib.hid hf1
  have K2 := Lib.hid (And.intro k2 (H1.out.1.trans k2))
  have h0h := k2.heap (fun x => x) H1.out.2.1
  have b0 : W2.cell? ⟨w0.heap.size, 0, none⟩ = some (.slice a N ca) := blk_cell h0h 0
  clear k2 h0h hf1
  cases f1
  case false =>
    gi_wp2_with fail
    refine ⟨trivial, ?_⟩
    gi_wp2_with fail
    refine callW (AW.out W2 K2.out.2) ?_
    rintro e W3 ⟨rfl, k3⟩
    have h3 := (K2.out.1.trans k3).heap (fun x => x) H1.out.2.2
    have cr : W3.cell? ⟨w0.heap.size + 1, 0, none⟩ = some (.bool false) := blk_cell h3 0
    have fr : W3.frozen? ⟨w0.heap.size + 1, 0, none⟩ = false := blk_frozen h3 0
    have K3 := Lib.hid (FIN.out W3 (.bool true) (K2.out.1.trans k3))
    clear k3 h3
    gi_wp2_with fail
    have hc := World.cell?_setCell_same' W3 ⟨w0.heap.size + 1, 0, none⟩ (.bool true) (by rw [cr]; rfl)
    exact ⟨.bool true, results_cell rfl _ rfl hc, rfl, K3.out⟩
  have hbT := Lib.hid (Hf1.out (by first | rfl | trivial))
  have hN1 : N ≤ 16392 := hbT.out.1
  gi_wp2_with fail
  obtain ⟨m, hm⟩ : ∃ m, m = mayN ts := ⟨_, rfl⟩
  rw [← hm] at MY
  have Hm := Lib.hid hm
  refine callW (MY.out hN1 W2 K2.out.2) ?_
  rintro e W3 ⟨rfl, k3⟩
  have K3 := Lib.hid (And.intro (K2.out.1.trans k3) (K2.out.2.trans k3))
  clear hm b0 k3
  cases m
  case false =>
    gi_wp2_with fail
    refine callW (AW.out W3 K3.out.2) ?_
    rintro e W4 ⟨rfl, k4⟩
    have h4 := (K3.out.1.trans k4).heap (fun x => x) H1.out.2.2
    have cr : W4.cell? ⟨w0.heap.size + 1, 0, none⟩ = some (.bool false) := blk_cell h4 0
    have fr : W4.frozen? ⟨w0.heap.size + 1, 0, none⟩ = false := blk_frozen h4 0
    have K4 := Lib.hid (FIN.out W4 (.bool true) (K3.out.1.trans k4))
    clear k4 h4
    gi_wp2_with fail
    have hc := World.cell?_setCell_same' W4 ⟨w0.heap.size + 1, 0, none⟩ (.bool true) (by rw [cr]; rfl)
    exact ⟨.bool true, results_cell rfl _ rfl hc, rfl, K4.out⟩
  have hmay := Lib.hid Hm.out.symm
  have hg := Lib.hid (may_parts hmay.out).1
  have hb3 := (K3.out.1).heap (fun x => x) H1.out.2.1
  have b0 : W3.cell? ⟨w0.heap.size, 0, none⟩ = some (.slice a N ca) := blk_cell hb3 0
  clear hb3
  gi_wp2_with fail
  -- Up
  refine callW (UP.out hmay.out W3 K3.out.2) ?_
  rintro e W4 ⟨uv, rfl, hu, k4⟩
  obtain ⟨ua, uc, rfl, huc1, huc2, -⟩ := own_shape hu
  obtain ⟨W5, hW5⟩ : ∃ W5, W5 = W4.alloc (.cells #[.slice ua N uc] 23) := ⟨_, rfl⟩
  have kV : KB F0 W4 W5 := by rw [hW5]; exact (KB.refl _ _).alloc _
  have hU : W5.heap[W4.heap.size]? = some (.cells #[.slice ua N uc] 23 (0, 0)) := by rw [hW5]; exact alloc_new _ _
  have K5 := Lib.hid (And.intro (K3.out.1.trans (k4.trans kV)) (K3.out.2.trans (k4.trans kV)))
  have hb5 := K5.out.1.heap (fun x => x) H1.out.2.1
  have b0 : W5.cell? ⟨w0.heap.size, 0, none⟩ = some (.slice a N ca) := blk_cell hb5 0
  have u0 : W5.cell? ⟨W4.heap.size, 0, none⟩ = some (.slice ua N uc) := blk_cell hU 0
  rw [hW5] at b0 u0
  have H5 := Lib.hid (And.intro hU (own_kb hu kV (fun _ _ x => x)))
  have HW5 := Lib.hid hW5
  have hs5 : W5.heap.size = W4.heap.size + 1 := by rw [hW5]; simp
  have bW : (W5.alloc (.cells #[.slice none 0 0] 23)).cell? ⟨w0.heap.size, 0, none⟩ = some (.slice a N ca) := blk_cell (((KB.refl F0 W5).alloc _).heap (fun x => x) hb5) 0
  rw [hW5] at bW
  unfold maxLen at huc2
  have Hs5 := Lib.hid hs5
  clear hu k4 kV hU hb5 hW5 hs5
  gi_wp2_with fail
  rw [← HW5.out]
  obtain ⟨U3, hU3⟩ : ∃ U3, U3 = W4.heap.size := ⟨_, rfl⟩
  rw [← hU3] at H5 Hs5 ⊢
  clear b0 u0 bW hU3
  -- Walk
  obtain ⟨W6, hW6⟩ : ∃ W6, W6 = W5.alloc (.cells #[.slice none 0 0] 23) := ⟨_, rfl⟩
  rw [← hW6]
  have k6 : KB F0 W5 W6 := by rw [hW6]; exact (KB.refl _ _).alloc _
  have hA6 : W6.heap[W5.heap.size]? = some (.cells #[.slice none 0 0] 23 (0, 0)) := by rw [hW6]; exact alloc_new _ _
  have hs6 : W6.heap.size = W5.heap.size + 1 := by rw [hW6]; simp
  obtain ⟨A5, hA5⟩ : ∃ A5, A5 = U3 + 1 := ⟨_, rfl⟩
  rw [Hs5.out, ← hA5] at hA6 hs6
  rw [← hA5]
  have hUA : U3 < A5 := by omega
  have hA5W : W1.heap.size ≤ A5 := by rw [hA5, ← Hs5.out]; exact K5.out.1.size
  have H6 := Lib.hid (And.intro hA6 (And.intro (k6.heap (fun x => x) H5.out.1) (And.intro (own_kb H5.out.2 k6 (fun _ _ x => x)) (And.intro (K5.out.1.trans k6) (K5.out.2.trans k6)))))
  clear hW6 k6 hA6 hA5
  refine callW (WK.out hN1 W6 H6.out.2.2.2.2) ?_
  rintro e W7 ⟨wb, wv, rfl, hwc, hwo, k7⟩
  have hwd : walkD ts = aboveL ts := by unfold walkD; rw [if_pos hmay.out]
  rw [hwd] at hwo
  obtain ⟨d, hd⟩ : ∃ d, d = aboveL ts := ⟨_, rfl⟩
  have hD : Depths ts d := by rw [hd]; exact depths_above hg.out
  have hdlen : d.length = N := by rw [HN.out]; exact hD.len
  have hdx : ∀ i, d.getD i 0 < 100000 := fun i => by
    have := aboveN_le (good_down hg.out) ts.length (Nat.le_refl _) i
    have e : aboveN ts ts.length = d := hd.symm
    rw [e] at this
    have := HN.out
    omega
  rw [← hd] at hwo
  have hA7lt : A5 < W7.heap.size := Nat.lt_of_lt_of_le (heap_lt H6.out.1) k7.size
  have ST := Lib.hid (walk1_stops Fence.wide 19 (by omega) (fun _ => trivial) rfl wb W6.heap.size wv d (by omega) hdx W7 (fun j => j = A5 ∨ W7.heap.size ≤ j) (fun g e hS => by
    obtain ⟨c, h1, h2⟩ := own_block hwo e
    have := heap_lt h1
    rcases hS with hS | hS <;> omega) hwc hwo)
  have H7 := Lib.hid (And.intro (k7.heap (fun x => x) H6.out.1) (And.intro (k7.heap (fun x => x) H6.out.2.1) (And.intro (own_kb H6.out.2.2.1 k7 (fun _ _ x => x)) (And.intro (H6.out.2.2.2.1.trans k7) (H6.out.2.2.2.2.trans k7)))))
  have HD := Lib.hid (And.intro hd (And.intro hD (And.intro hdlen hdx)))
  clear hd hD hdlen hdx hwd hwc hwo k7
  gi_wp2_with fail
  refine rangeFuncF (F := Fence.wide) rfl (by omega) (gf := 50) (lb := #[.pointer (some ⟨wb, 0, none⟩)]) rfl trivial (enters_of Tryd.func50 (by kernel_rfl) rfl)
    ST.out KC.trans (fun W l o o' _ h ho _ => KC.putObj W l o o' h ho) (Below.refl _ _) (fun _ => rfl)
    (fun pre W => ∃ v, W.heap[A5]? = some (.cells #[v] 23 (0, 0)) ∧ W.ownsRow W7.heap.size 3 1 v pre.length (nats (pre.map (fun p => lo p.2))) ∧ W.heap[U3]? = some (.cells #[.slice ua N uc] 23 (0, 0)) ∧
      W.ownsRow W3.heap.size 3 1 (.slice ua N uc) N (ints (upL ts)) ∧ W.heap[w0.heap.size + 1]? = some (.cells #[.bool false] 4 (0, 0)) ∧ W.heap[w0.heap.size]? = some (.cells #[.slice a N ca] 31 (0, 0)) ∧ KB F0 W1 W ∧ W7.heap.size ≤ W.heap.size)
    (fun _ pre _ => ¬ (pre <+: walkL d)) ?own (fun _ => ownFrom_pure _ _) ?start ?rounds ?done ?stop
  case own =>
    rintro pre A B row ⟨v, h1, h2, h3, h4, h5, h6, h7, h8⟩ hg' hr
    exact ⟨v, own_heap hg' hr h1 rfl, own_row hg' hr h2, own_heap hg' hr h3 rfl, own_row hg' hr h4, own_heap hg' hr h5 rfl, own_heap hg' hr h6 rfl, own_kbF h7 H7.out.2.2.2.1.size hg' hr, Nat.le_trans h8 hg'.size⟩
  case start => exact ⟨_, H7.out.1, World.ownsRow_nil _ _ _ _, H7.out.2.1, H7.out.2.2.1, H7.out.2.2.2.1.heap (fun x => x) H1.out.2.2, H7.out.2.2.2.1.heap (fun x => x) H1.out.2.1, H7.out.2.2.2.1, Nat.le_refl _⟩
  case stop =>
    rintro D c pre W _ hp hn _
    exact (hn hp).elim
  case rounds =>
    apply Exists.intro
    refine ⟨?assign, ?body⟩
    case assign =>
      intro l x W K hK
      simp only [encW]
      gi_wp2
      exact hK
    case body =>
      rintro l pre x W ⟨v, h1, h2, h3, h4, h5, h6, h7, h8⟩ hpl
      obtain ⟨q, hq⟩ : ∃ q, q = pre.length := ⟨_, rfl⟩
      rw [← hq] at h2 hpl
      obtain ⟨va, vc, rfl, hvc1, hvc2, -⟩ := own_shape h2
      obtain ⟨x1, hx1⟩ : ∃ n, n = lo x.1 := ⟨_, rfl⟩
      obtain ⟨x2, hx2⟩ : ∃ n, n = lo x.2 := ⟨_, rfl⟩
      rw [← hx1, ← hx2]
      have hx1b : x1 < 100000 := by rw [hx1]; exact lo_lt _
      have hx2b : x2 < 100000 := by rw [hx2]; exact lo_lt _
      have hqN : q < N := by have := HD.out.2.2.1; omega
      have PF := Lib.hid (fun (h : pre ++ [x] <+: walkL d) => (show x1 = q ∧ x2 = d.getD q 0 ∧ ∀ i, i < q → (pre.map fun p => lo p.2).getD i 0 = d.getD i 0 by
        rw [hx1, hx2, hq]
        exact walkL_prefix HD.out.2.2.2 (by rw [← hq]; exact hpl) (by have := HD.out.2.2.1; omega) h))
      have hUs := up_spec hg.out
      have hul : (upL ts).length = N := by rw [HN.out]; exact upK_len ts _
      have hal : (pre.map fun p => lo p.2).length = q := by rw [List.length_map, hq]
      obtain ⟨ug, uc', e, -, hcu, -⟩ := own_set h4 (i := q) hqN
      simp only [Value.slice.injEq, true_and] at e
      obtain ⟨rfl, rfl⟩ := e
      rw [ints_get (by omega)] at hcu
      have cA : W.cell? ⟨A5, 0, none⟩ = some (.slice va q vc) := blk_cell h1 0
      have cU : W.cell? ⟨U3, 0, none⟩ = some (.slice (some ⟨ug, 0, none⟩) N uc) := blk_cell h3 0
      have cR : W.cell? ⟨w0.heap.size + 1, 0, none⟩ = some (.bool false) := blk_cell h5 0
      have fR : W.frozen? ⟨w0.heap.size + 1, 0, none⟩ = false := blk_frozen h5 0
      have HU := Lib.hid H7.out.2.2.1
      have HX := Lib.hid (And.intro hx1 hx2)
      have HQ := Lib.hid hq
      have hrow := h2
      have hX1A : w0.heap.size + 1 < W1.heap.size := heap_lt H1.out.2.2
      have hW17 : W1.heap.size ≤ W7.heap.size := H7.out.2.2.2.1.size
      have hW16 : W1.heap.size ≤ A5 := hA5W
      have HW := Lib.hid (And.intro h1 (And.intro h2 (And.intro h3 (And.intro h4 (And.intro h5 (And.intro h6 (And.intro h7 h8)))))))
      unfold maxLen at hvc2
      clear h1 h2 h3 h4 h5 h6 h7 h8 hx1 hx2 hq
      by_cases e1 : x1 = q
      · have e1 := e1.symm
        subst e1
        have t1 : ((q : Int) != (q : Int)) = false := by simp
        by_cases e0 : q = 0
        · have hcu0 : (upL ts).getD q 0 = -1 := by rw [e0]; exact hUs.1
          rw [hcu0] at hcu
          have hd0 : d.getD q 0 = 0 := by rw [e0]; exact HD.out.2.1.zero
          have Hd0 := Lib.hid hd0
          clear hrow hUs hul hal hcu0 hd0
          subst e0
          rw [show (((0 : Nat) : Int)) = 0 from rfl]
          by_cases e2 : x2 = 0
          · subst e2
            (try rw [show (((0 : Nat) : Int)) = 0 from rfl])
            gi_wp2_with fail
            refine wpIn_region_rv 50 GQ (kindV []) (lets_wide.inRound l) (by kernel_rfl) (by kernel_rfl) (by kernel_rfl) GQ.trans GQ.refl (GQ.start _) (kindV_mono _) ?_
            simp only [List.take_succ_cons, List.take_zero, List.drop_succ_cons, List.drop_zero]
            iterate 8 (refine rv_det (by kernel_rfl) rfl (by intro w hG hH; obtain ⟨n, rfl⟩ := hG; go_simp; first | done | with_reducible rfl) ?_; simp only [Act.put, List.setIfInBounds_toArray, List.set_cons_zero, List.set_cons_succ])
            iterate 25 (refine rv_skip (by kernel_rfl) ?_; simp only [Act.put, List.setIfInBounds_toArray, List.set_cons_zero, List.set_cons_succ])
            iterate 17 (refine rv_det (by kernel_rfl) rfl (by intro w hG hH; obtain ⟨n, rfl⟩ := hG; go_simp; first | done | with_reducible rfl) ?_; simp only [Act.put, List.setIfInBounds_toArray, List.set_cons_zero, List.set_cons_succ])
            refine rv_nil (fun w hG hH => ?_)
            obtain ⟨n, rfl⟩ := hG
            clear hH
            have cAn : (W.drewN n).cell? ⟨A5, 0, none⟩ = some (.slice va 0 vc) := cA
            gi_wp2_with (gi_at_builtin; refine Stopped.out ?_)
            refine ⟨?_⟩
            have kd : KB F0 W (W.drewN n) := (KB.refl _ _).drewN n
            have ka : KB F0 (W.drewN n) ((W.drewN n).alloc (.cells #[.int .i64 0] 3)) := (KB.refl _ _).alloc _
            have HA := Lib.hid (And.intro (own_kb HW.out.2.1 (kd.trans ka) (fun _ _ x => x)) (And.intro (kd.trans ka) (alloc_new (W.drewN n) (.cells #[.int .i64 0] 3))))
            have hs7 : W7.heap.size ≤ W.heap.size := HW.out.2.2.2.2.2.2.2
            refine appRowIn 23 3 W7.heap.size [.int .i64 0] Tryd.infoInt Tryd.underlying23 rfl (by decide) HA.out.1 rfl rfl rfl rfl HA.out.2.2 rfl (by intro u hu; rw [List.mem_singleton] at hu; subst hu; rfl) (by unfold maxLen; omega) (by omega) (by simp; omega) ?_
            intro v' w' hown' hgr
            obtain ⟨va', vc', rfl, -⟩ := own_shape hown'
            have hge : ∀ g, (Value.slice va 0 vc).ownBlock = some g → W7.heap.size ≤ g ∧ ∃ c, ((W.drewN n).alloc (.cells #[.int .i64 0] 3)).heap[g]? = some (.cells c 3 (0, 0)) := fun g e => by
              obtain ⟨c, h1, h2⟩ := own_block HA.out.1 e
              exact ⟨h2, c, h1⟩
            have kg : KB (fun k => W7.heap.size ≤ k) W w' := (HA.out.2.1.mono (fun _ _ x => x.elim)).grown hgr (fun k e _ => (hge k e).1)
            have ks := kb_set w' A5 0 (.slice va' (0 + 1) vc')
            have hA' := kg.heap (b := A5) (fun h => by omega) HW.out.1
            have cA' : w'.cell? ⟨A5, 0, none⟩ = some (.slice va 0 vc) := blk_cell hA' 0
            have fA' : w'.frozen? ⟨A5, 0, none⟩ = false := blk_frozen hA' 0
            have hA2 := setCell_blk (i := 0) hA' (.slice va' (0 + 1) vc')
            have hrow2 := own_kb hown' ks (fun g e1 e2 => by
              obtain ⟨c, -, h2⟩ := own_block hown' e1
              omega)
            have kall : KB (fun k => k = A5 ∨ W7.heap.size ≤ k) W (w'.setCell ⟨A5, 0, none⟩ (.slice va' (0 + 1) vc')) := (kg.mono (fun k _ h => Or.inr h)).trans (ks.mono (fun k _ h => Or.inl h))
            have hko : KeepsOthers W (w'.setCell ⟨A5, 0, none⟩ (.slice va' (0 + 1) vc')) := KeepsOthers.trans (KeepsOthers.trans (⟨Nat.le_refl _, fun _ _ h _ => h⟩ : KeepsOthers W (W.drewN n)) (KeepsOthers.alloc _ _)) (KeepsOthers.trans (KeepsOthers.of_grownBy hgr (fun j o e ho => by
              obtain ⟨-, c, hc⟩ := hge j e
              rw [hc] at ho; cases ho; rfl)) (KeepsOthers.setCell _ _ _))
            have hU' := kall.heap (b := U3) (fun h => by omega) HW.out.2.2.1
            have hu' := own_kb HW.out.2.2.2.1 kall (fun g e1 e2 => by
              obtain ⟨c, h1, -⟩ := own_block HW.out.2.2.2.1 e1
              rcases e2 with e2 | e2
              · rw [e2, HW.out.1] at h1
                simp only [Option.some.injEq, Obj.cells.injEq] at h1
                exact absurd h1.2.1 (by decide)
              · obtain ⟨c3, h3, -⟩ := own_block HU.out e1
                have := heap_lt h3
                omega)
            have hR' := kall.heap (b := w0.heap.size + 1) (fun h => by omega) HW.out.2.2.2.2.1
            have hB' := kall.heap (b := w0.heap.size) (fun h => by omega) HW.out.2.2.2.2.2.1
            have hk' := HW.out.2.2.2.2.2.2.1.above kall (fun g hg => by omega)
            have HF := Lib.hid (And.intro hko (And.intro (KC.refl (fun j => j = A5 ∨ W7.heap.size ≤ j) W |>.kb kall (fun _ h => h)) (And.intro hA2 (And.intro hrow2 (And.intro hU' (And.intro hu' (And.intro hR' (And.intro hB' (And.intro hk' (Nat.le_trans hs7 kall.size))))))))))
            clear hown' hgr hge kg ks hA' hA2 hrow2 kall hko hU' hu' hR' hB' hk' kd ka cAn
            gi_wp2_with fail
            refine ⟨HF.out.1, HF.out.2.1, _, HF.out.2.2.1, ?_, HF.out.2.2.2.2⟩
            rw [List.length_append, List.length_singleton, List.map_append, ← HQ.out, List.map_singleton, ← HX.out.2, nats_app]
            exact HF.out.2.2.2.1
          · have t4 : ((x2 : Int) != 0) = true := by simp; omega
            have np := Lib.hid (show ¬ (pre ++ [x] <+: walkL d) from fun h => by have := (PF.out h).2.1; rw [Hd0.out] at this; exact e2 this)
            gi_wp2_with fail
            refine wpIn_region_rv 50 GQ (kindV []) (lets_wide.inRound l) (by kernel_rfl) (by kernel_rfl) (by kernel_rfl) GQ.trans GQ.refl (GQ.start _) (kindV_mono _) ?_
            simp only [List.take_succ_cons, List.take_zero, List.drop_succ_cons, List.drop_zero]
            iterate 8 (refine rv_det (by kernel_rfl) rfl (by intro w hG hH; obtain ⟨n, rfl⟩ := hG; go_simp; first | done | with_reducible rfl) ?_; simp only [Act.put, List.setIfInBounds_toArray, List.set_cons_zero, List.set_cons_succ])
            iterate 25 (refine rv_skip (by kernel_rfl) ?_; simp only [Act.put, List.setIfInBounds_toArray, List.set_cons_zero, List.set_cons_succ])
            iterate 9 (refine rv_det (by kernel_rfl) rfl (by intro w hG hH; obtain ⟨n, rfl⟩ := hG; go_simp; first | done | with_reducible rfl) ?_; simp only [Act.put, List.setIfInBounds_toArray, List.set_cons_zero, List.set_cons_succ])
            iterate 5 (refine rv_skip (by kernel_rfl) ?_; simp only [Act.put, List.setIfInBounds_toArray, List.set_cons_zero, List.set_cons_succ])
            iterate 3 (refine rv_det (by kernel_rfl) rfl (by intro w hG hH; obtain ⟨n, rfl⟩ := hG; go_simp; first | done | with_reducible rfl) ?_; simp only [Act.put, List.setIfInBounds_toArray, List.set_cons_zero, List.set_cons_succ])
            refine rv_nil (fun w hG hH => ?_)
            obtain ⟨n, rfl⟩ := hG
            clear hH
            have cRn : (W.drewN n).cell? ⟨w0.heap.size + 1, 0, none⟩ = some (.bool false) := cR
            have fRn : (W.drewN n).frozen? ⟨w0.heap.size + 1, 0, none⟩ = false := fR
            gi_wp2_with fail
            exact ⟨KeepsOthers.trans (⟨Nat.le_refl _, fun _ _ h _ => h⟩ : KeepsOthers W (W.drewN n)) (KeepsOthers.setCell _ _ _), np.out⟩
        · have t2 : decide ((0 : Int) < (q : Int)) = true := decide_eq_true (by omega)
          have t2n : decide (0 < q) = true := decide_eq_true (by omega)
          have t2p : 0 < q := by omega
          have t3 : ((q : Int) == 0) = false := by simp; omega
          obtain ⟨p, hp, hpm⟩ := good_parent hg.out (j := q) (by have := HN.out; omega) (by omega)
          have hup := hUs.2 p (by have := HN.out; omega) q hpm
          rw [hup] at hcu
          have Hdp := Lib.hid (HD.out.2.1.step p (by have := HN.out; omega) q hpm)
          obtain ⟨ag, ac', e, -, hca', -⟩ := own_set hrow (i := p) hp
          simp only [Value.slice.injEq, true_and] at e
          obtain ⟨rfl, rfl⟩ := e
          rw [nats_get (by omega)] at hca'
          obtain ⟨y, hy⟩ : ∃ y, y = (pre.map fun p => lo p.2).getD p 0 := ⟨_, rfl⟩
          rw [← hy] at hca'
          have Hy := Lib.hid hy
          have t5 : decide ((p : Int) < 0) = false := decide_eq_false (by omega)
          have t6 : decide ((q : Int) ≤ (p : Int)) = false := decide_eq_false (by omega)
          have t6n : decide (q ≤ p) = false := decide_eq_false (by omega)
          have t6p : ¬ q ≤ p := by omega
          have w1 : IntKind.i64.wrap ((x2 : Int) - 1) = (x2 : Int) - 1 := w64 (by omega) (by omega)
          have hpN : (p : Int) < (q : Int) := by omega
          clear hrow hUs hul hal hup hpm hy
          by_cases e3 : (y : Int) = (x2 : Int) - 1
          · have t7 : ((y : Int) != (x2 : Int) - 1) = false := by simp [e3]
            clear e3
            gi_wp2_with fail
            refine wpIn_region_rv 50 GQ (kindV []) (lets_wide.inRound l) (by kernel_rfl) (by kernel_rfl) (by kernel_rfl) GQ.trans GQ.refl (GQ.start _) (kindV_mono _) ?_
            simp only [List.take_succ_cons, List.take_zero, List.drop_succ_cons, List.drop_zero]
            iterate 39 (refine rv_det (by kernel_rfl) rfl (by intro w hG hH; obtain ⟨n, rfl⟩ := hG; go_simp; first | done | with_reducible rfl) ?_; simp only [Act.put, List.setIfInBounds_toArray, List.set_cons_zero, List.set_cons_succ])
            iterate 9 (refine rv_skip (by kernel_rfl) ?_; simp only [Act.put, List.setIfInBounds_toArray, List.set_cons_zero, List.set_cons_succ])
            iterate 2 (refine rv_det (by kernel_rfl) rfl (by intro w hG hH; obtain ⟨n, rfl⟩ := hG; go_simp; first | done | with_reducible rfl) ?_; simp only [Act.put, List.setIfInBounds_toArray, List.set_cons_zero, List.set_cons_succ])
            refine rv_nil (fun w hG hH => ?_)
            obtain ⟨n, rfl⟩ := hG
            clear hH
            have cAn : (W.drewN n).cell? ⟨A5, 0, none⟩ = some (.slice (some ⟨ag, 0, none⟩) q vc) := cA
            gi_wp2_with (gi_at_builtin; refine Stopped.out ?_)
            refine ⟨?_⟩
            have kd : KB F0 W (W.drewN n) := (KB.refl _ _).drewN n
            have ka : KB F0 (W.drewN n) ((W.drewN n).alloc (.cells #[.int .i64 x2] 3)) := (KB.refl _ _).alloc _
            have HA := Lib.hid (And.intro (own_kb HW.out.2.1 (kd.trans ka) (fun _ _ x => x)) (And.intro (kd.trans ka) (alloc_new (W.drewN n) (.cells #[.int .i64 x2] 3))))
            have hs7 : W7.heap.size ≤ W.heap.size := HW.out.2.2.2.2.2.2.2
            refine appRowIn 23 3 W7.heap.size [.int .i64 x2] Tryd.infoInt Tryd.underlying23 rfl (by decide) HA.out.1 rfl rfl rfl rfl HA.out.2.2 rfl (by intro u hu; rw [List.mem_singleton] at hu; subst hu; rfl) (by unfold maxLen; omega) (by omega) (by simp; omega) ?_
            intro v' w' hown' hgr
            obtain ⟨va', vc', rfl, -⟩ := own_shape hown'
            have hge : ∀ g, (Value.slice (some ⟨ag, 0, none⟩) q vc).ownBlock = some g → W7.heap.size ≤ g ∧ ∃ c, ((W.drewN n).alloc (.cells #[.int .i64 x2] 3)).heap[g]? = some (.cells c 3 (0, 0)) := fun g e => by
              obtain ⟨c, h1, h2⟩ := own_block HA.out.1 e
              exact ⟨h2, c, h1⟩
            have kg : KB (fun k => W7.heap.size ≤ k) W w' := (HA.out.2.1.mono (fun _ _ x => x.elim)).grown hgr (fun k e _ => (hge k e).1)
            have ks := kb_set w' A5 0 (.slice va' (q + 1) vc')
            have hA' := kg.heap (b := A5) (fun h => by omega) HW.out.1
            have cA' : w'.cell? ⟨A5, 0, none⟩ = some (.slice (some ⟨ag, 0, none⟩) q vc) := blk_cell hA' 0
            have fA' : w'.frozen? ⟨A5, 0, none⟩ = false := blk_frozen hA' 0
            have hA2 := setCell_blk (i := 0) hA' (.slice va' (q + 1) vc')
            have hrow2 := own_kb hown' ks (fun g e1 e2 => by
              obtain ⟨c, -, h2⟩ := own_block hown' e1
              omega)
            have kall : KB (fun k => k = A5 ∨ W7.heap.size ≤ k) W (w'.setCell ⟨A5, 0, none⟩ (.slice va' (q + 1) vc')) := (kg.mono (fun k _ h => Or.inr h)).trans (ks.mono (fun k _ h => Or.inl h))
            have hko : KeepsOthers W (w'.setCell ⟨A5, 0, none⟩ (.slice va' (q + 1) vc')) := KeepsOthers.trans (KeepsOthers.trans (⟨Nat.le_refl _, fun _ _ h _ => h⟩ : KeepsOthers W (W.drewN n)) (KeepsOthers.alloc _ _)) (KeepsOthers.trans (KeepsOthers.of_grownBy hgr (fun j o e ho => by
              obtain ⟨-, c, hc⟩ := hge j e
              rw [hc] at ho; cases ho; rfl)) (KeepsOthers.setCell _ _ _))
            have hU' := kall.heap (b := U3) (fun h => by omega) HW.out.2.2.1
            have hu' := own_kb HW.out.2.2.2.1 kall (fun g e1 e2 => by
              obtain ⟨c, h1, -⟩ := own_block HW.out.2.2.2.1 e1
              rcases e2 with e2 | e2
              · rw [e2, HW.out.1] at h1
                simp only [Option.some.injEq, Obj.cells.injEq] at h1
                exact absurd h1.2.1 (by decide)
              · obtain ⟨c3, h3, -⟩ := own_block HU.out e1
                have := heap_lt h3
                omega)
            have hR' := kall.heap (b := w0.heap.size + 1) (fun h => by omega) HW.out.2.2.2.2.1
            have hB' := kall.heap (b := w0.heap.size) (fun h => by omega) HW.out.2.2.2.2.2.1
            have hk' := HW.out.2.2.2.2.2.2.1.above kall (fun g hg => by omega)
            have HF := Lib.hid (And.intro hko (And.intro (KC.refl (fun j => j = A5 ∨ W7.heap.size ≤ j) W |>.kb kall (fun _ h => h)) (And.intro hA2 (And.intro hrow2 (And.intro hU' (And.intro hu' (And.intro hR' (And.intro hB' (And.intro hk' (Nat.le_trans hs7 kall.size))))))))))
            clear hown' hgr hge kg ks hA' hA2 hrow2 kall hko hU' hu' hR' hB' hk' kd ka cAn
            gi_wp2_with fail
            refine ⟨HF.out.1, HF.out.2.1, _, HF.out.2.2.1, ?_, HF.out.2.2.2.2⟩
            rw [List.length_append, List.length_singleton, List.map_append, ← HQ.out, List.map_singleton, ← HX.out.2, nats_app]
            exact HF.out.2.2.2.1
          · have t7 : ((y : Int) != (x2 : Int) - 1) = true := by simp; exact e3
            have np := Lib.hid (show ¬ (pre ++ [x] <+: walkL d) from fun h => by have h1 := (PF.out h).2.1; have h2 := (PF.out h).2.2 p hp; rw [← Hy.out] at h2; have h3 := Hdp.out; omega)
            gi_wp2_with fail
            refine wpIn_region_rv 50 GQ (kindV []) (lets_wide.inRound l) (by kernel_rfl) (by kernel_rfl) (by kernel_rfl) GQ.trans GQ.refl (GQ.start _) (kindV_mono _) ?_
            simp only [List.take_succ_cons, List.take_zero, List.drop_succ_cons, List.drop_zero]
            iterate 36 (refine rv_det (by kernel_rfl) rfl (by intro w hG hH; obtain ⟨n, rfl⟩ := hG; go_simp; first | done | with_reducible rfl) ?_; simp only [Act.put, List.setIfInBounds_toArray, List.set_cons_zero, List.set_cons_succ])
            iterate 13 (refine rv_skip (by kernel_rfl) ?_; simp only [Act.put, List.setIfInBounds_toArray, List.set_cons_zero, List.set_cons_succ])
            refine rv_det (by kernel_rfl) rfl (by intro w hG hH; obtain ⟨n, rfl⟩ := hG; go_simp; first | done | with_reducible rfl) ?_
            simp only [Act.put, List.setIfInBounds_toArray, List.set_cons_zero, List.set_cons_succ]
            refine rv_nil (fun w hG hH => ?_)
            obtain ⟨n, rfl⟩ := hG
            clear hH
            have cRn : (W.drewN n).cell? ⟨w0.heap.size + 1, 0, none⟩ = some (.bool false) := cR
            have fRn : (W.drewN n).frozen? ⟨w0.heap.size + 1, 0, none⟩ = false := fR
            gi_wp2_with fail
            exact ⟨KeepsOthers.trans (⟨Nat.le_refl _, fun _ _ h _ => h⟩ : KeepsOthers W (W.drewN n)) (KeepsOthers.setCell _ _ _), np.out⟩
      · have t1 : ((x1 : Int) != (q : Int)) = true := by simp; omega
        clear hrow hUs hul hal
        have np := Lib.hid (show ¬ (pre ++ [x] <+: walkL d) from fun h => e1 (PF.out h).1)
        gi_wp2_with fail
        refine wpIn_region_rv 50 GQ (kindV []) (lets_wide.inRound l) (by kernel_rfl) (by kernel_rfl) (by kernel_rfl) GQ.trans GQ.refl (GQ.start _) (kindV_mono _) ?_
        simp only [List.take_succ_cons, List.take_zero, List.drop_succ_cons, List.drop_zero]
        iterate 5 (refine rv_det (by kernel_rfl) rfl (by intro w hG hH; obtain ⟨n, rfl⟩ := hG; go_simp; first | done | with_reducible rfl) ?_; simp only [Act.put, List.setIfInBounds_toArray, List.set_cons_zero, List.set_cons_succ])
        iterate 29 (refine rv_skip (by kernel_rfl) ?_; simp only [Act.put, List.setIfInBounds_toArray, List.set_cons_zero, List.set_cons_succ])
        iterate 2 (refine rv_det (by kernel_rfl) rfl (by intro w hG hH; obtain ⟨n, rfl⟩ := hG; go_simp; first | done | with_reducible rfl) ?_; simp only [Act.put, List.setIfInBounds_toArray, List.set_cons_zero, List.set_cons_succ])
        iterate 13 (refine rv_skip (by kernel_rfl) ?_; simp only [Act.put, List.setIfInBounds_toArray, List.set_cons_zero, List.set_cons_succ])
        refine rv_det (by kernel_rfl) rfl (by intro w hG hH; obtain ⟨n, rfl⟩ := hG; go_simp; first | done | with_reducible rfl) ?_
        simp only [Act.put, List.setIfInBounds_toArray, List.set_cons_zero, List.set_cons_succ]
        refine rv_nil (fun w hG hH => ?_)
        obtain ⟨n, rfl⟩ := hG
        clear hH
        have cRn : (W.drewN n).cell? ⟨w0.heap.size + 1, 0, none⟩ = some (.bool false) := cR
        have fRn : (W.drewN n).frozen? ⟨w0.heap.size + 1, 0, none⟩ = false := fR
        gi_wp2_with fail
        exact ⟨KeepsOthers.trans (⟨Nat.le_refl _, fun _ _ h _ => h⟩ : KeepsOthers W (W.drewN n)) (KeepsOthers.setCell _ _ _), np.out⟩
  case done =>
    rintro Dk xs W hDk rfl ⟨v, h1, h2, h3, h4, h5, h6, h7, h8⟩ hK
    rw [walkL_snd HD.out.2.2.2, walkL_len, HD.out.2.2.1] at h2
    obtain ⟨va, vc, rfl, hvc1, hvc2, -⟩ := own_shape h2
    unfold maxLen at hvc2
    have HW := Lib.hid (And.intro h1 (And.intro h2 (And.intro h5 (And.intro h6 (And.intro h7 (And.intro hK (H1.out.1.trans h7)))))))
    have cA : W.cell? ⟨A5, 0, none⟩ = some (.slice va N vc) := blk_cell h1 0
    have b0 : W.cell? ⟨w0.heap.size, 0, none⟩ = some (.slice a N ca) := blk_cell h6 0
    have hX1A : w0.heap.size + 1 < W1.heap.size := heap_lt H1.out.2.2
    have hW17 : W1.heap.size ≤ W7.heap.size := H7.out.2.2.2.1.size
    have hN0 : 0 < N := by rw [HN.out]; exact hg.out.1
    clear h1 h2 h3 h4 h5 h6 h7 h8 hK
    gi_wp2_with fail
    clear cA b0
    gi_loopw [9, 8] (fun nv mv wr => ∃ (j m : Nat), j ≤ N ∧ nv = .int .i64 j ∧ mv = .int .i64 m ∧ m ≤ 200000 ∧ KB F0 W wr ∧ Hid ((∀ i, i < j → d.getD i 0 + 1 ≤ m) ∧ (m = 0 ∨ ∃ i, i < j ∧ m = d.getD i 0 + 1))) (fun nv _ _ => N - (intOf nv).toNat)
    case atStart => exact ⟨0, 0, by omega, rfl, rfl, by omega, KB.refl _ _, Lib.hid ⟨fun i hi => by omega, .inl rfl⟩⟩
    case round =>
      obtain ⟨j, m, hj, rfl, rfl, hm, hkb, hmx⟩ := hrel
      have cA : wr.cell? ⟨A5, 0, none⟩ = some (.slice va N vc) := blk_cell (hkb.heap (fun x => x) HW.out.1) 0
      have b0 : wr.cell? ⟨w0.heap.size, 0, none⟩ = some (.slice a N ca) := blk_cell (hkb.heap (fun x => x) HW.out.2.2.2.1) 0
      have HK := Lib.hid hkb
      by_cases hlt : j < N
      · obtain ⟨ag, ac', e, -, hca', -⟩ := own_set (own_kb HW.out.2.1 hkb (fun _ _ x => x)) (i := j) hlt
        simp only [Value.slice.injEq, true_and] at e
        obtain ⟨rfl, rfl⟩ := e
        rw [nats_get (by have := HD.out.2.2.1; omega)] at hca'
        have hxb := HD.out.2.2.2 j
        obtain ⟨x, hx⟩ : ∃ x, x = d.getD j 0 := ⟨_, rfl⟩
        rw [← hx] at hca' hxb
        have Hx := Lib.hid hx
        have w1 : IntKind.i64.wrap ((x : Int) + 1) = (x : Int) + 1 := w64 (by omega) (by omega)
        clear hkb hx
        have hjt : j < ts.length := by rw [← HN.out]; exact hlt
        obtain ⟨z1, z2⟩ := subT_of hmay.out (n := (j : Int)) (by omega) (by omega)
        have SBJ := Lib.hid (show Calls Tryd.prog 15 #[.agg #[.slice a N ca], .int .i64 j] wr fun e w' => ∃ v ls, e = .returned (.tuple #[.agg #[v], .int .i64 0]) ∧ OwnTs w' wr.heap.size v (subN ts j) ls ∧ KB F0 wr w' by
          have h := SB.out hN1 (j : Int) (by omega) (by omega) wr (HW.out.2.2.2.2.2.2.trans HK.out)
          rw [z1, z2, Int.toNat_natCast] at h
          exact h)
        obtain ⟨g1, g2, g3⟩ := En_spec hg.out hjt
        have hSl := subN_len hg.out hjt
        have DB := Lib.hid (depth_below HD.out.2.1 ts.length j (En ts j) hjt (by omega) g1)
        have DE := Lib.hid (depth_behind hg.out HD.out.2.1 j hjt (En ts j) g1)
        obtain ⟨E, hE⟩ : ∃ E, E = En ts j := ⟨_, rfl⟩
        obtain ⟨S, hS⟩ : ∃ S, S = subN ts j := ⟨_, rfl⟩
        rw [← hE] at g2 g3 hSl DB DE
        rw [← hS] at hSl SBJ
        rw [← HN.out] at g3 DE
        obtain ⟨m', hm'⟩ : ∃ m', m' = max m (x + 1) := ⟨_, rfl⟩
        have hmb : m' ≤ 200000 := by omega
        have HM : Hid ((∀ i, i < j + 1 → d.getD i 0 + 1 ≤ m') ∧ (m' = 0 ∨ ∃ i, i < j + 1 ∧ m' = d.getD i 0 + 1)) := Lib.hid ⟨fun i hi => by
          rcases Nat.lt_or_eq_of_le (Nat.lt_succ_iff.1 hi) with h | rfl
          · have := hmx.out.1 i h; omega
          · rw [← Hx.out]; omega, by
          by_cases h : m ≤ x + 1
          · exact .inr ⟨j, by omega, by rw [← Hx.out]; omega⟩
          · rcases hmx.out.2 with h0 | ⟨i, hi, e⟩
            · omega
            · exact .inr ⟨i, by omega, by omega⟩⟩
        clear z1 z2 g1 hE hS hjt
        gi_wp2_with fail
        case roundEnd =>
          exact ⟨⟨j + 1, m', by omega, by go_num, by rw [hm']; first | rfl | (congr 1; omega), hmb, HK.out, HM.out⟩, by simp [intOf]; omega⟩
        all_goals
          rw [show max (m : Int) ((x : Int) + 1) = (m' : Int) by omega]
          clear hm'
          refine callW SBJ.out ?_
          rintro e W8 ⟨v8, ls8, rfl, ho, k8⟩
          obtain ⟨a8, c8, rfl, ho1, ho2, ho3, -⟩ := ho.nodes
          obtain ⟨L, hL⟩ : ∃ L, L = S.length := ⟨_, rfl⟩
          rw [← hL] at hSl ho2 ⊢
          unfold maxLen at ho3
          obtain ⟨W9, hW9⟩ : ∃ W9, W9 = W8.alloc (.cells #[.slice a8 L c8] 31) := ⟨_, rfl⟩
          have kV : KB F0 wr W9 := by rw [hW9]; exact k8.alloc _
          have hsv : W9.heap[W8.heap.size]? = some (.cells #[.slice a8 L c8] 31 (0, 0)) := by rw [hW9]; exact alloc_new _ _
          have HW9 := Lib.hid hW9
          have HK9 := Lib.hid (HK.out.trans kV)
          have HLJ : Hid ((L : Int) = (E : Int) - (j : Int)) := Lib.hid (by omega)
          clear hW9 ho ho1 k8 kV hca' cA b0 hL hSl
          gi_wp2_with fail
          rw [← HW9.out]
          obtain ⟨T10, hT10⟩ : ∃ T10, T10 = W8.heap.size := ⟨_, rfl⟩
          rw [← hT10] at hsv ⊢
          clear hT10
          gi_loopw [12] (fun kv wr2 => ∃ k : Nat, j < k ∧ k ≤ E ∧ kv = .int .i64 k ∧ KB F0 W9 wr2) (fun kv _ => E - (intOf kv).toNat)
          case atStart => exact ⟨j + 1, by omega, by omega, by go_num, KB.refl _ _⟩
          case round =>
            obtain ⟨k, hk1, hk2, rfl, hkb2⟩ := hrel
            have cA : wr.cell? ⟨A5, 0, none⟩ = some (.slice (some ⟨ag, 0, none⟩) N vc) := blk_cell ((HK9.out.trans hkb2).heap (fun x => x) HW.out.1) 0
            have t10r : wr.cell? ⟨T10, 0, none⟩ = some (.slice a8 L c8) := blk_cell (hkb2.heap (fun x => x) hsv) 0
            have hown := own_kb HW.out.2.1 (HK9.out.trans hkb2) (fun _ _ x => x)
            obtain ⟨ag2, ac2, e, -, hcj, -⟩ := own_set hown (i := j) hlt
            simp only [Value.slice.injEq, Option.some.injEq, Addr.mk.injEq, and_true, true_and] at e
            obtain ⟨rfl, rfl⟩ := e
            rw [nats_get (by have := HD.out.2.2.1; omega), ← Hx.out] at hcj
            have hk2s := Lib.hid hkb2
            clear hkb2
            by_cases hkN : k < N
            · obtain ⟨ag2, ac2, e, -, hck, -⟩ := own_set hown (i := k) hkN
              simp only [Value.slice.injEq, Option.some.injEq, Addr.mk.injEq, and_true, true_and] at e
              obtain ⟨rfl, rfl⟩ := e
              rw [nats_get (by have := HD.out.2.2.1; omega)] at hck
              obtain ⟨y, hy⟩ : ∃ y, y = d.getD k 0 := ⟨_, rfl⟩
              rw [← hy] at hck
              have q1 : decide ((k : Int) < (N : Int)) = true := decide_eq_true (by omega)
              have q2 : decide (k < N) = true := decide_eq_true hkN
              by_cases hkE : k < E
              · have hxy : x < y := by rw [hy, Hx.out]; exact DB.out k hk1 hkE
                have q3 : decide ((x : Int) < (y : Int)) = true := decide_eq_true (by omega)
                have q4 : decide (x < y) = true := decide_eq_true hxy
                clear hown hy
                gi_wp2_with fail
                refine wpIn_region_rv 15 GQ (kindV []) lets_wide (by kernel_rfl) (by kernel_rfl) (by kernel_rfl) GQ.trans GQ.refl (GQ.start _) (kindV_mono _) ?_
                simp only [List.take_succ_cons, List.take_zero, List.drop_succ_cons, List.drop_zero]
                iterate 15 (refine rv_det (by kernel_rfl) rfl (by intro w hG hH; obtain ⟨n, rfl⟩ := hG; go_simp; first | done | with_reducible rfl) ?_; simp only [Act.put, List.setIfInBounds_toArray, List.set_cons_zero, List.set_cons_succ])
                refine rv_nil (fun w hG hH => ?_)
                obtain ⟨n, rfl⟩ := hG
                clear hH
                clear cA t10r hcj hck
                gi_wp2_with fail
                go_roundw
                case rel => exact ⟨k + 1, by omega, by omega, by go_num, hk2s.out.drewN n⟩
                case measure => simp [intOf]; omega
              · obtain rfl : k = E := by omega
                have hxy : ¬ x < y := by have := DE.out hkN; rw [← Hx.out, ← hy] at this; omega
                have q3 : decide ((x : Int) < (y : Int)) = false := decide_eq_false (by omega)
                have q4 : decide (x < y) = false := decide_eq_false hxy
                have w2 : IntKind.i64.wrap ((k : Int) - (j : Int)) = (k : Int) - (j : Int) := w64 (by omega) (by omega)
                have d4 : ((L : Int) != (k : Int) - (j : Int)) = false := by have := HLJ.out; simp; omega
                clear hown hy
                gi_wp2_with fail
                refine wpIn_region_rv 15 GQ (kindV []) lets_wide (by kernel_rfl) (by kernel_rfl) (by kernel_rfl) GQ.trans GQ.refl (GQ.start _) (kindV_mono _) ?_
                simp only [List.take_succ_cons, List.take_zero, List.drop_succ_cons, List.drop_zero]
                iterate 15 (refine rv_det (by kernel_rfl) rfl (by intro w hG hH; obtain ⟨n, rfl⟩ := hG; go_simp; first | done | with_reducible rfl) ?_; simp only [Act.put, List.setIfInBounds_toArray, List.set_cons_zero, List.set_cons_succ])
                refine rv_nil (fun w hG hH => ?_)
                obtain ⟨n, rfl⟩ := hG
                clear hH
                have cAn : (wr.drewN n).cell? ⟨A5, 0, none⟩ = some (.slice (some ⟨ag, 0, none⟩) N vc) := cA
                have t10 : (wr.drewN n).cell? ⟨T10, 0, none⟩ = some (.slice a8 L c8) := t10r
                gi_wp2_with fail
                go_roundw
                case rel => exact ⟨j + 1, m', by omega, by go_num, rfl, hmb, HK9.out.trans (hk2s.out.drewN n), HM.out⟩
                case measure => simp [intOf]; omega
            · obtain rfl : k = E := by omega
              have q1 : decide ((k : Int) < (N : Int)) = false := decide_eq_false (by omega)
              have q2 : decide (k < N) = false := decide_eq_false hkN
              have w2 : IntKind.i64.wrap ((k : Int) - (j : Int)) = (k : Int) - (j : Int) := w64 (by omega) (by omega)
              have d4 : ((L : Int) != (k : Int) - (j : Int)) = false := by have := HLJ.out; simp; omega
              clear hown
              gi_wp2_with fail
              refine wpIn_region_rv 15 GQ (kindV []) lets_wide (by kernel_rfl) (by kernel_rfl) (by kernel_rfl) GQ.trans GQ.refl (GQ.start _) (kindV_mono _) ?_
              simp only [List.take_succ_cons, List.take_zero, List.drop_succ_cons, List.drop_zero]
              iterate 5 (refine rv_det (by kernel_rfl) rfl (by intro w hG hH; obtain ⟨n, rfl⟩ := hG; go_simp; first | done | with_reducible rfl) ?_; simp only [Act.put, List.setIfInBounds_toArray, List.set_cons_zero, List.set_cons_succ])
              iterate 9 (refine rv_skip (by kernel_rfl) ?_; simp only [Act.put, List.setIfInBounds_toArray, List.set_cons_zero, List.set_cons_succ])
              refine rv_det (by kernel_rfl) rfl (by intro w hG hH; obtain ⟨n, rfl⟩ := hG; go_simp; first | done | with_reducible rfl) ?_
              simp only [Act.put, List.setIfInBounds_toArray, List.set_cons_zero, List.set_cons_succ]
              refine rv_nil (fun w hG hH => ?_)
              obtain ⟨n, rfl⟩ := hG
              clear hH
              have cAn : (wr.drewN n).cell? ⟨A5, 0, none⟩ = some (.slice (some ⟨ag, 0, none⟩) N vc) := cA
              have t10 : (wr.drewN n).cell? ⟨T10, 0, none⟩ = some (.slice a8 L c8) := t10r
              gi_wp2_with fail
              go_roundw
              case rel => exact ⟨j + 1, m', by omega, by go_num, rfl, hmb, HK9.out.trans (hk2s.out.drewN n), HM.out⟩
              case measure => simp [intOf]; omega
      · obtain rfl : j = N := by omega
        have hdeep : deepR ts = m := by
          unfold deepR
          rw [if_pos hmay.out]
          obtain ⟨p1, i, p2, p3⟩ := deepN_depths hg.out HD.out.2.1
          have q1 := hmx.out.1 i (by rw [HN.out]; exact p2)
          rcases hmx.out.2 with h | ⟨i', h1, h2⟩
          · omega
          · have := p1 i' (by rw [← HN.out]; exact h1)
            omega
        have DPJ := Lib.hid (show Calls Tryd.prog 25 #[.agg #[.slice a j ca]] wr fun e w' => e = .returned (.int .i64 m) ∧ KB F0 wr w' by
          have h := DP.out hN1 wr (HW.out.2.2.2.2.2.2.trans HK.out)
          rw [hdeep] at h
          exact h)
        have d5 : ((m : Int) == (m : Int)) = true := by simp
        clear hkb hdeep
        gi_wp2_with fail
        refine callW DPJ.out ?_
        rintro e W8 ⟨rfl, k8⟩
        have K8 := Lib.hid (HK.out.trans k8)
        clear k8 cA b0
        gi_wp2_with fail
        refine callW (AW.out W8 (HW.out.2.2.2.2.2.2.trans K8.out)) ?_
        rintro e W9 ⟨rfl, k9⟩
        have k9' := K8.out.trans k9
        have r9 : W9.heap[w0.heap.size + 1]? = some (.cells #[.bool false] 4 (0, 0)) := k9'.heap (fun x => x) HW.out.2.2.1
        have cr : W9.cell? ⟨w0.heap.size + 1, 0, none⟩ = some (.bool false) := blk_cell r9 0
        have fr : W9.frozen? ⟨w0.heap.size + 1, 0, none⟩ = false := blk_frozen r9 0
        have D9 := Lib.hid (k9'.heap (fun x => x) HW.out.2.2.2.2.2.1)
        have KW := Lib.hid (HW.out.2.2.2.2.2.2.trans k9')
        clear r9 k9 k9'
        gi_wp2_with fail
        have hc := World.cell?_setCell_same' W9 ⟨w0.heap.size + 1, 0, none⟩ (.bool true) (by rw [cr]; rfl)
        have hd9 : (W9.setCell ⟨w0.heap.size + 1, 0, none⟩ (.bool true)).heap[Dk]? = some (.deferred (some [])) := (Below.heap_setCell W9 ⟨w0.heap.size + 1, 0, none⟩ _ Dk (by show Dk ≠ w0.heap.size + 1; omega)).trans D9.out
        refine ⟨by simp, .inl ⟨_, _, rfl, run_takeDeferred hd9, ?_⟩⟩
        have k10 : KB F0 w0 (W9.setCell ⟨w0.heap.size + 1, 0, none⟩ (.bool true)) := KW.out.setCell (p := ⟨w0.heap.size + 1, 0, none⟩) (fun hh => by
          have h1 : w0.heap.size + 1 < w0.heap.size := hh; omega) _
        refine ⟨.bool true, results_cell rfl _ rfl ((World.cell?_of_block (World.putObj_heap_other (k := w0.heap.size + 1) (by omega))).trans hc), rfl, ?_⟩
        exact k10.grown (grownBy_putObj' _ Dk _) (fun q e hq => by cases e; omega)
end Go.Proofs.YtjefoojkgocinaaDoor

/- Places compared: slices.Equal and Compare of steps; place.Prefix, Order, Same. slices.Compare, cmp.Or; place.Order, Same, Prefix. -/
import Derived.Test.YtpigppghcghpbaaGreatDoorMg04
import Derived.Test.YtpigppghcghpbaaGreatDoorPlC
import Derived.Test.YtpigppghcghpbaaGreatDoorShelfPl
import Derived.Test.YtpigppghcghpbaaGreatDoorRegSt
import Derived.LoopN
namespace Go.Proofs.YtpigppghcghpbaaGreatDoor
open Go.RowKit

theorem IntsAt.kbF {w w' : World} {a : Option Addr} {xs : List Int} (h : IntsAt w a xs) (hk : KB F0 w w') : IntsAt w' a xs := h.kb hk (fun _ _ _ x => x)
theorem intsAt_nil (w : World) (a : Option Addr) : IntsAt w a [] := fun k h => absurd h (Nat.not_lt_zero k)
/-- Lists alike as far as the first k. -/
theorem eq_step {xs ys : List Int} (hn : xs.length = ys.length) (h : ∀ i, i < xs.length → xs.getD i 0 = ys.getD i 0) : xs = ys := by
  apply List.ext_getElem hn
  intro i h1 h2
  have := h i h1
  rwa [List.getD_eq_getElem?_getD, List.getD_eq_getElem?_getD, List.getElem?_eq_getElem h1, List.getElem?_eq_getElem h2] at this
set_option maxRecDepth 100000 in
set_option maxHeartbeats 8000000 in
theorem seq_any (xs ys : List Int) (hl : xs.length ≤ 1000000) (a b : Option Addr) (c d : Nat) (w : World) (h1 : IntsAt w a xs) (h2 : IntsAt w b ys) :
    Calls Tryz.prog 41 #[.slice a xs.length c, .slice b ys.length d] w fun e w' => e = .returned (.bool (decide (xs = ys))) ∧ KB F0 w w' := by
  obtain ⟨w0, rfl⟩ : ∃ w0, w0 = w := ⟨_, rfl⟩
  obtain ⟨r, hr⟩ : ∃ r, r = decide (xs = ys) := ⟨_, rfl⟩
  rw [← hr]
  have Hr := Lib.hid hr
  clear hr
  by_cases hn : xs.length = ys.length
  · have Hs := Lib.hid (fun h => eq_step hn h)
    rw [← hn]
    obtain ⟨N, hN⟩ : ∃ N, N = xs.length := ⟨_, rfl⟩
    have HTS := Lib.hid (And.intro hN (And.intro hn (And.intro h1 h2)))
    rw [← hN] at hl ⊢
    clear hN hn h1 h2
    go_enter Tryz.func41, Tryz.ntmps41
    go_wp2_with fail
    go_loopw [13] (fun kv wr => ∃ k : Nat, k ≤ N ∧ kv = .int .i64 k ∧ KB F0 w0 wr ∧ Hid (∀ i, i < k → xs.getD i 0 = ys.getD i 0)) (fun kv _ => N - (intOf kv).toNat)
    case atStart => exact ⟨0, by omega, rfl, KB.refl _ _, Lib.hid (fun i hi => by omega)⟩
    case round =>
      obtain ⟨k, hk, rfl, hkb, hall⟩ := hrel
      have HK := Lib.hid hkb
      by_cases hlt : k < N
      · have d1 : decide ((k : Int) < (N : Int)) = true := decide_eq_true (by omega)
        have ik : (k : Int) < (N : Int) := by omega
        obtain ⟨b1, o1, rfl, hx0⟩ := HTS.out.2.2.1 k (by rw [← HTS.out.1]; exact hlt)
        obtain ⟨b2, o2, rfl, hy0⟩ := HTS.out.2.2.2 k (by rw [← HTS.out.2.1, ← HTS.out.1]; exact hlt)
        have hx := HK.out.cell (p := ⟨b1, o1 + k, none⟩) (fun x => x) hx0
        have hy := HK.out.cell (p := ⟨b2, o2 + k, none⟩) (fun x => x) hy0
        have Hx : Hid (∀ x y, x = xs.getD k 0 → y = ys.getD k 0 → x = y → ∀ i, i < k + 1 → xs.getD i 0 = ys.getD i 0) := Lib.hid (fun x y e1 e2 e i hi => by
          rcases Nat.lt_or_eq_of_le (Nat.lt_succ_iff.1 hi) with h' | rfl
          · exact hall.out i h'
          · rw [← e1, ← e2, e])
        have Hn : Hid (xs.getD k 0 ≠ ys.getD k 0 → r = false) := Lib.hid (fun h => by
          rw [Hr.out]
          exact decide_eq_false (fun e => h (by rw [e])))
        obtain ⟨x, hxe⟩ : ∃ x, x = xs.getD k 0 := ⟨_, rfl⟩
        obtain ⟨y, hye⟩ : ∃ y, y = ys.getD k 0 := ⟨_, rfl⟩
        rw [← hxe] at hx Hn
        rw [← hye] at hy Hn
        have HE := Lib.hid (And.intro hxe hye)
        clear hx0 hy0 hall hkb hxe hye
        by_cases hxy : x = y
        · have hall2 := Lib.hid (Hx.out x y HE.out.1 HE.out.2 hxy)
          subst hxy
          go_wp2_with fail
          refine wp_region_rv 9 GQ (kindV []) (by kernel_rfl) (by kernel_rfl) GQ.trans GQ.refl (GQ.start _) (kindV_mono _) ?_
          simp only [List.take_succ_cons, List.take_zero, List.drop_succ_cons, List.drop_zero]
          iterate 9 (refine rv_det (by kernel_rfl) rfl (by intro w hG hH; obtain ⟨n, rfl⟩ := hG; go_simp; first | done | with_reducible rfl) ?_; simp only [Act.put, List.setIfInBounds_toArray, List.set_cons_zero, List.set_cons_succ])
          refine rv_nil (fun w hG hH => ?_)
          obtain ⟨n, rfl⟩ := hG
          clear hH
          go_wp2_with fail
          refine ⟨⟨k + 1, by omega, by go_num, HK.out.drewN _, hall2⟩, by simp [intOf]; omega⟩
        · have hr2 : Hid (r = false) := Lib.hid (Hn.out hxy)
          have t1 : (x == y) = false := by simpa using hxy
          have t2 : (x != y) = true := by simpa using hxy
          clear hxy
          go_wp2_with fail
          refine wp_region_rv 9 GQ (kindV []) (by kernel_rfl) (by kernel_rfl) GQ.trans GQ.refl (GQ.start _) (kindV_mono _) ?_
          simp only [List.take_succ_cons, List.take_zero, List.drop_succ_cons, List.drop_zero]
          iterate 9 (refine rv_det (by kernel_rfl) rfl (by intro w hG hH; obtain ⟨n, rfl⟩ := hG; go_simp; first | done | with_reducible rfl) ?_; simp only [Act.put, List.setIfInBounds_toArray, List.set_cons_zero, List.set_cons_succ])
          refine rv_nil (fun w hG hH => ?_)
          obtain ⟨n, rfl⟩ := hG
          clear hH
          go_wp2_with fail
          go_ret
          exact ⟨ret_eq (by rw [hr2.out]; rfl), HK.out.drewN _⟩
      · obtain rfl : k = N := by omega
        have d1 : decide ((k : Int) < (k : Int)) = false := decide_eq_false (by omega)
        have hr2 : Hid (r = true) := Lib.hid (by rw [Hr.out]; exact decide_eq_true (Hs.out (by rw [← HTS.out.1]; exact hall.out)))
        clear hall hkb
        go_wp2_with fail
        go_ret
        exact ⟨ret_eq (by rw [hr2.out]; rfl), HK.out⟩
  · have hr2 : Hid (r = false) := Lib.hid (by rw [Hr.out]; exact decide_eq_false (fun e => hn (by rw [e])))
    generalize xs.length = N at *
    generalize ys.length = M at *
    have d1 : ((N : Int) != (M : Int)) = true := by simp; omega
    have d2 : ((N : Int) == (M : Int)) = false := by simp; omega
    clear hn h1 h2
    go_enter Tryz.func41, Tryz.ntmps41
    go_wp2_with fail
    go_ret
    exact ⟨ret_eq (by rw [hr2.out]; rfl), KB.refl _ _⟩
set_option maxRecDepth 100000 in
set_option maxHeartbeats 4000000 in
theorem cmpStep_any (x y : Int) (w : World) : Calls Tryz.prog 64 #[.int .i64 x, .int .i64 y] w fun e w' => e = .returned (.int .i64 (cmpI x y)) ∧ w = w' := by
  obtain ⟨w0, rfl⟩ : ∃ w0, w0 = w := ⟨_, rfl⟩
  obtain ⟨r, hr⟩ : ∃ r, r = cmpI x y := ⟨_, rfl⟩
  rw [← hr]
  have Hr := Lib.hid hr
  clear hr
  have hc := cmpI_cases x y
  rw [← Hr.out] at hc
  rcases hc with ⟨h1, h2⟩ | ⟨h1, h2⟩ | ⟨h1, h2⟩
  · have HE := Lib.hid h2
    have d1 : decide (x < y) = true := decide_eq_true h1
    clear h1 h2
    go_enter Tryz.func64, Tryz.ntmps64
    go_wp2
    go_ret
    exact ⟨ret_eq (by rw [HE.out]; rfl), rfl⟩
  · have HE := Lib.hid h2
    subst h1
    have d1 : decide (x < x) = false := decide_eq_false (by omega)
    clear h2
    go_enter Tryz.func64, Tryz.ntmps64
    go_wp2
    go_ret
    exact ⟨ret_eq (by rw [HE.out]; rfl), rfl⟩
  · have HE := Lib.hid h2
    have d1 : decide (x < y) = false := decide_eq_false (by omega)
    have d2 : decide (y < x) = true := decide_eq_true h1
    clear h1 h2
    go_enter Tryz.func64, Tryz.ntmps64
    go_wp2
    go_ret
    exact ⟨ret_eq (by rw [HE.out]; rfl), rfl⟩
theorem cmpInt_any (x y : Int) (w : World) : Calls Tryz.prog 43 #[.int .i64 x, .int .i64 y] w fun e w' => e = .returned (.int .i64 (cmpI x y)) ∧ w = w' := by
  refine (Tryz.cmp_Compare_int x y w).mono ?_
  rintro e w' ⟨rfl, rfl⟩
  refine ⟨?_, rfl⟩
  have : Lib.compareInt x y = cmpI x y := by
    unfold Lib.compareInt cmpI
    first | rfl | (split <;> rfl)
  rw [this]
end Go.Proofs.YtpigppghcghpbaaGreatDoor

namespace Go.Proofs.YtpigppghcghpbaaGreatDoor
open Go.RowKit

/-- A slice of n elements that was just laid. -/
def RowN (n B : Nat) (v : Value) : Prop := ∃ nb, v = .slice (some ⟨nb, 0, none⟩) n n ∧ B ≤ nb
def RowNAt (n B : Nat) (cs : Array Value) (t : TypeId) (v : Value) (w : World) : Prop := ∃ nb, v = .slice (some ⟨nb, 0, none⟩) n n ∧ B ≤ nb ∧ w.heap[nb]? = some (.cells cs t (0, 0))
theorem lasts_rowN (n B : Nat) (cs : Array Value) (t : TypeId) : Lasts (RowNAt n B cs t) := fun _ _ _ hG ⟨nb, h1, h2, h3⟩ => ⟨nb, h1, h2, hG.heap (fun x => x) h3⟩
theorem opVal_rowN {P : Program} {o : Oper} {a : Act} {w w0 : World} {n : Nat} {cs : Array Value} {t : TypeId} (hG : GK w0 w)
    (hr : (execOp a.eval o).run P w = .ok (.value (.slice (some ⟨w.heap.size, 0, none⟩) n n)) (w.alloc (.cells cs t))) :
    OpVal P o a w (fun v w' => RowN n w0.heap.size v ∧ GK w w' ∧ RowNAt n w0.heap.size cs t v w') :=
  opVal_value hr ⟨⟨_, rfl, hG.size⟩, (KB.refl _ w).alloc _, ⟨_, rfl, hG.size, alloc_new w _⟩⟩
theorem rowN_heap {n B nb : Nat} {cs : Array Value} {t : TypeId} {w : World} (h : RowNAt n B cs t (.slice (some ⟨nb, 0, none⟩) n n) w) : w.heap[nb]? = some (.cells cs t (0, 0)) := by
  obtain ⟨nb', e, -, hrow⟩ := h
  simp only [Value.slice.injEq, Option.some.injEq, Addr.mk.injEq, and_true] at e
  obtain rfl : nb = nb' := by first | exact e | exact e.1
  exact hrow
theorem drop_intD {xs : List Int} {k : Nat} (h : k < xs.length) : xs.drop k = xs.getD k 0 :: xs.drop (k + 1) := by
  rw [List.drop_eq_getElem_cons h, List.getD_eq_getElem?_getD, List.getElem?_eq_getElem h]; rfl
set_option maxRecDepth 100000 in
set_option maxHeartbeats 8000000 in
theorem scmp_any (xs ys : List Int) (hl : xs.length ≤ 1000000) (a b : Option Addr) (c d : Nat) (w : World) (h1 : IntsAt w a xs) (h2 : IntsAt w b ys) :
    Calls Tryz.prog 44 #[.slice a xs.length c, .slice b ys.length d] w fun e w' => e = .returned (.int .i64 (cmpL xs ys)) ∧ w = w' := by
  obtain ⟨w0, rfl⟩ : ∃ w0, w0 = w := ⟨_, rfl⟩
  obtain ⟨r, hr⟩ : ∃ r, r = cmpL xs ys := ⟨_, rfl⟩
  rw [← hr]
  obtain ⟨N, hN⟩ : ∃ N, N = xs.length := ⟨_, rfl⟩
  obtain ⟨M, hM⟩ : ∃ M, M = ys.length := ⟨_, rfl⟩
  have H := Lib.hid (And.intro hN (And.intro hM (And.intro h1 h2)))
  have Hr := Lib.hid hr
  rw [← hN] at hl ⊢
  rw [← hM]
  clear hN hM h1 h2 hr
  go_enter Tryz.func44, Tryz.ntmps44
  go_wp2_with fail
  go_loop [11] (fun kv => ∃ k : Nat, k ≤ N ∧ kv = .int .i64 k ∧ Hid (r = cmpL (xs.drop k) (ys.drop k)) ∧ k ≤ M) (fun kv => N - (intOf kv).toNat)
  case atStart => exact ⟨0, by omega, rfl, Lib.hid (by rw [List.drop_zero, List.drop_zero]; exact Hr.out), by omega⟩
  case round =>
    obtain ⟨k, hk, rfl, hrk, hkM⟩ := hrel
    by_cases hlt : k < N
    · have d1 : decide ((k : Int) < (N : Int)) = true := decide_eq_true (by omega)
      have ik : (k : Int) < (N : Int) := by omega
      have hkx : k < xs.length := by rw [← H.out.1]; exact hlt
      obtain ⟨b1, o1, rfl, hx0⟩ := H.out.2.2.1 k hkx
      have hdx := Lib.hid (drop_intD hkx)
      obtain ⟨x, hxe⟩ : ∃ x, x = xs.getD k 0 := ⟨_, rfl⟩
      rw [← hxe] at hx0 hdx
      clear hxe hkx
      by_cases hM : k < M
      · have d2 : decide ((M : Int) ≤ (k : Int)) = false := decide_eq_false (by omega)
        have d2' : decide (M ≤ k) = false := decide_eq_false (by omega)
        have d2p : ¬ M ≤ k := by omega
        have ikM : (k : Int) < (M : Int) := by omega
        have hky : k < ys.length := by rw [← H.out.2.1]; exact hM
        obtain ⟨b2, o2, rfl, hy0⟩ := H.out.2.2.2 k hky
        have hdy := Lib.hid (drop_intD hky)
        obtain ⟨y, hye⟩ : ∃ y, y = ys.getD k 0 := ⟨_, rfl⟩
        rw [← hye] at hy0 hdy
        have hr2 : Hid (r = if cmpI x y = 0 then cmpL (xs.drop (k + 1)) (ys.drop (k + 1)) else cmpI x y) := Lib.hid (by rw [hrk.out, hdx.out, hdy.out]; rfl)
        have CM := Lib.hid (fun (W : World) => cmpStep_any x y W)
        clear hye hky hrk hdx hdy
        obtain ⟨q, hq⟩ : ∃ q, q = cmpI x y := ⟨_, rfl⟩
        rw [← hq] at hr2 CM
        clear hq
        go_wp2_with fail
        refine (CM.out _).mono ?_
        rintro e w' ⟨rfl, rfl⟩
        by_cases h0 : q = 0
        · have t1 : (q != 0) = false := by simp [h0]
          have t2 : (q == 0) = true := by simp [h0]
          have hr3 : Hid (r = cmpL (xs.drop (k + 1)) (ys.drop (k + 1))) := Lib.hid (by rw [hr2.out, if_pos h0])
          clear h0
          go_wp2_with fail
          refine ⟨⟨k + 1, by omega, by go_num, hr3, by omega⟩, by simp [intOf]; omega⟩
        · have t1 : (q != 0) = true := by simp [h0]
          have t2 : (q == 0) = false := by simp [h0]
          have hr3 : Hid (r = q) := Lib.hid (by rw [hr2.out, if_neg h0])
          clear h0
          go_wp2_with fail
          go_ret
          exact ⟨ret_eq (by rw [hr3.out]; rfl), rfl⟩
      · have d2 : decide ((M : Int) ≤ (k : Int)) = true := decide_eq_true (by omega)
        have d2' : decide (M ≤ k) = true := decide_eq_true (by omega)
        have d2p : M ≤ k := by omega
        have hr2 : Hid (r = 1) := Lib.hid (by
          rw [hrk.out, hdx.out, show ys.drop k = [] from List.drop_of_length_le (by rw [← H.out.2.1]; omega)]; rfl)
        clear hrk
        go_wp2_with fail
        go_ret
        exact ⟨ret_eq (by rw [hr2.out]; rfl), rfl⟩
    · obtain rfl : k = N := by omega
      have d1 : decide ((k : Int) < (k : Int)) = false := decide_eq_false (by omega)
      have hnil : xs.drop k = [] := List.drop_of_length_le (by rw [← H.out.1]; exact Nat.le_refl _)
      by_cases hM : k < M
      · have d2 : decide ((k : Int) < (M : Int)) = true := decide_eq_true (by omega)
        have d2' : decide (k < M) = true := decide_eq_true hM
        have hr2 : Hid (r = -1) := Lib.hid (by
          rw [hrk.out, hnil, drop_intD (show k < ys.length by rw [← H.out.2.1]; exact hM)]; rfl)
        clear hrk hnil
        go_wp2_with fail
        go_ret
        exact ⟨ret_eq (by rw [hr2.out]; rfl), rfl⟩
      · have d2 : decide ((k : Int) < (M : Int)) = false := decide_eq_false (by omega)
        have d2' : decide (k < M) = false := decide_eq_false hM
        have hr2 : Hid (r = 0) := Lib.hid (by
          rw [hrk.out, hnil, show ys.drop k = [] from List.drop_of_length_le (by rw [← H.out.2.1]; omega)]; rfl)
        clear hrk hnil
        go_wp2_with fail
        go_ret
        exact ⟨ret_eq (by rw [hr2.out]; rfl), rfl⟩
set_option maxRecDepth 100000 in
set_option maxHeartbeats 4000000 in
theorem cmpOr_any (x y : Int) (g c : Nat) (w : World) (h : w.heap[g]? = some (.cells #[.int .i64 x, .int .i64 y] 3 (0, 0))) :
    Calls Tryz.prog 42 #[.slice (some ⟨g, 0, none⟩) 2 c] w fun e w' => e = .returned (.int .i64 (if x = 0 then y else x)) ∧ w = w' := by
  obtain ⟨w0, rfl⟩ : ∃ w0, w0 = w := ⟨_, rfl⟩
  have c0 : w0.cell? ⟨g, 0, none⟩ = some (.int .i64 x) := blk_cell h 0
  have c1 : w0.cell? ⟨g, 1, none⟩ = some (.int .i64 y) := blk_cell h 1
  obtain ⟨r, hr⟩ : ∃ r, r = if x = 0 then y else x := ⟨_, rfl⟩
  rw [← hr]
  have Hr := Lib.hid hr
  clear h hr
  by_cases hx : x = 0
  · subst hx
    have HE : Hid (r = y) := Lib.hid (by rw [Hr.out, if_pos rfl])
    clear Hr
    by_cases hy : y = 0
    · subst hy
      go_enter Tryz.func42, Tryz.ntmps42
      go_wp2_with fail
      refine wp_loop_rounds 3 ?_
      iterate 3 (rw [rounds_succ]; go_wp2_with fail)
      go_ret
      exact ⟨ret_eq (by rw [HE.out]; rfl), rfl⟩
    · have t1 : (y != 0) = true := by simp [hy]
      have t2 : (y == 0) = false := by simp [hy]
      clear hy
      go_enter Tryz.func42, Tryz.ntmps42
      go_wp2_with fail
      refine wp_loop_rounds 3 ?_
      iterate 2 (rw [rounds_succ]; go_wp2_with fail)
      go_ret
      exact ⟨ret_eq (by rw [HE.out]; rfl), rfl⟩
  · have HE : Hid (r = x) := Lib.hid (by rw [Hr.out, if_neg hx])
    have t1 : (x != 0) = true := by simp [hx]
    have t2 : (x == 0) = false := by simp [hx]
    clear hx Hr
    go_enter Tryz.func42, Tryz.ntmps42
    go_wp2_with fail
    refine wp_loop_rounds 3 ?_
    rw [rounds_succ]
    go_wp2_with fail
    go_ret
    exact ⟨ret_eq (by rw [HE.out]; rfl), rfl⟩
/-- A place's value. -/
def plV (p : Pl) (a : Option Addr) (c : Nat) : Value := .agg #[.int .i64 p.loc, .slice a p.path.length c]
/-- A place lies in a world. -/
structure PlAt (w : World) (p : Pl) (a : Option Addr) (c : Nat) : Prop where
  ints : IntsAt w a p.path
  cap : p.path.length ≤ c
  small : p.path.length ≤ 100000
theorem PlAt.kbF {w w' : World} {p : Pl} {a : Option Addr} {c : Nat} (h : PlAt w p a c) (hk : KB F0 w w') : PlAt w' p a c := ⟨h.ints.kbF hk, h.cap, h.small⟩
set_option maxRecDepth 100000 in
set_option maxHeartbeats 8000000 in
theorem order_any (p q : Pl) (a b : Option Addr) (c d : Nat) (w : World) (h1 : PlAt w p a c) (h2 : PlAt w q b d) :
    Calls Tryz.prog 18 #[plV p a c, plV q b d] w fun e w' => e = .returned (.int .i64 (ordP p q)) ∧ KB F0 w w' := by
  obtain ⟨w0, rfl⟩ : ∃ w0, w0 = w := ⟨_, rfl⟩
  obtain ⟨x, xs⟩ := p
  obtain ⟨y, ys⟩ := q
  unfold plV ordP
  simp only
  obtain ⟨W2, hW2⟩ : ∃ W2, W2 = (w0.alloc (.cells #[.int .i64 x, .slice a xs.length c] 26)).alloc (.cells #[.int .i64 y, .slice b ys.length d] 26) := ⟨_, rfl⟩
  have kW : KB F0 w0 W2 := by rw [hW2]; exact ((KB.refl _ _).alloc _).alloc _
  have hs1 : (w0.alloc (.cells #[.int .i64 x, .slice a xs.length c] 26)).heap.size = w0.heap.size + 1 := by simp
  have g1 : W2.heap[w0.heap.size]? = some (.cells #[.int .i64 x, .slice a xs.length c] 26 (0, 0)) := by rw [hW2]; exact ((KB.refl F0 _).alloc _).heap (fun x => x) (alloc_new _ _)
  have g2 : W2.heap[w0.heap.size + 1]? = some (.cells #[.int .i64 y, .slice b ys.length d] 26 (0, 0)) := by rw [hW2, ← hs1]; exact alloc_new _ _
  have x0 : W2.cell? ⟨w0.heap.size, 0, none⟩ = some (.int .i64 x) := blk_cell g1 0
  have x1 : W2.cell? ⟨w0.heap.size, 1, none⟩ = some (.slice a xs.length c) := blk_cell g1 1
  have y0 : W2.cell? ⟨w0.heap.size + 1, 0, none⟩ = some (.int .i64 y) := blk_cell g2 0
  have y1 : W2.cell? ⟨w0.heap.size + 1, 1, none⟩ = some (.slice b ys.length d) := blk_cell g2 1
  have KW := Lib.hid kW
  have CI := Lib.hid (fun (W : World) => cmpInt_any x y W)
  have CS := Lib.hid (fun (W : World) (hk : KB F0 W2 W) => scmp_any xs ys (by have := h1.small; simp only at this; omega) a b c d W (h1.ints.kbF (kW.trans hk)) (h2.ints.kbF (kW.trans hk)))
  generalize cmpI x y = m at CI ⊢
  generalize cmpL xs ys = n at CS ⊢
  have OR := Lib.hid (fun (g : Nat) (W : World) (h : W.heap[g]? = some (.cells #[.int .i64 m, .int .i64 n] 3 (0, 0))) => cmpOr_any m n g 2 W h)
  generalize (if m = 0 then n else m) = r at OR ⊢
  generalize xs.length = N at CS hW2 x1 ⊢
  generalize ys.length = M at CS hW2 y1 ⊢
  clear h1 h2 kW hs1 g1 g2
  go_enter Tryz.func18, Tryz.ntmps18
  go_wp2_with fail
  rw [← hW2]
  clear hW2
  refine wp_region_rv 13 GK (kindW [(4, (fun v => v = .int .i64 m), (fun _ _ => True)), (9, (fun v => v = .int .i64 n), (fun _ _ => True)), (10, RowN 2 W2.heap.size, RowNAt 2 W2.heap.size #[.int .i64 m, .int .i64 n] 3), (11, (fun v => v = .int .i64 r), (fun _ _ => True))]) (by kernel_rfl) (by kernel_rfl) (kb_trans _) (kb_refl _) (kb_start _ _) (kindW_mono _ (by intro p hp; simp only [List.mem_cons, List.not_mem_nil, or_false] at hp; rcases hp with rfl | rfl | rfl | rfl <;> first | exact lasts_true | exact lasts_rowN _ _ _ _)) ?_
  simp only [List.take_succ_cons, List.take_zero, List.drop_succ_cons, List.drop_zero]
  refine rv_det (by kernel_rfl) rfl (by intro w hG hH; go_simp; first | done | with_reducible rfl) ?_
  simp only [Act.put, List.setIfInBounds_toArray, List.set_cons_zero, List.set_cons_succ]
  refine rv_det (by kernel_rfl) rfl (by intro w hG hH; have hc0 := KB.cell hG (fun x => x) (x0); go_simp; first | done | with_reducible rfl) ?_
  simp only [Act.put, List.setIfInBounds_toArray, List.set_cons_zero, List.set_cons_succ]
  refine rv_det (by kernel_rfl) rfl (by intro w hG hH; go_simp; first | done | with_reducible rfl) ?_
  simp only [Act.put, List.setIfInBounds_toArray, List.set_cons_zero, List.set_cons_succ]
  refine rv_det (by kernel_rfl) rfl (by intro w hG hH; have hc0 := KB.cell hG (fun x => x) (y0); go_simp; first | done | with_reducible rfl) ?_
  simp only [Act.put, List.setIfInBounds_toArray, List.set_cons_zero, List.set_cons_succ]
  refine rv_rel (by kernel_rfl) rfl ⟨_, rfl⟩ (by
    intro w hG hH
    refine opVal_call (by go_simp; first | done | exact ⟨⟨rfl, rfl⟩, rfl⟩) ?_
    refine (CI.out _).mono ?_
    rintro e w' ⟨rfl, hq⟩
    exact ⟨_, rfl, rfl, by first | (obtain ⟨nq, rfl⟩ := hq; exact (KB.refl _ _).drewN _) | (subst hq; exact KB.refl _ _) | exact hq, trivial⟩) ?_
  rintro v rfl
  simp only [Act.put, List.setIfInBounds_toArray, List.set_cons_zero, List.set_cons_succ]
  refine rv_det (by kernel_rfl) rfl (by intro w hG hH; go_simp; first | done | with_reducible rfl) ?_
  simp only [Act.put, List.setIfInBounds_toArray, List.set_cons_zero, List.set_cons_succ]
  refine rv_det (by kernel_rfl) rfl (by intro w hG hH; have hc0 := KB.cell hG (fun x => x) (x1); go_simp; first | done | with_reducible rfl) ?_
  simp only [Act.put, List.setIfInBounds_toArray, List.set_cons_zero, List.set_cons_succ]
  refine rv_det (by kernel_rfl) rfl (by intro w hG hH; go_simp; first | done | with_reducible rfl) ?_
  simp only [Act.put, List.setIfInBounds_toArray, List.set_cons_zero, List.set_cons_succ]
  refine rv_det (by kernel_rfl) rfl (by intro w hG hH; have hc0 := KB.cell hG (fun x => x) (y1); go_simp; first | done | with_reducible rfl) ?_
  simp only [Act.put, List.setIfInBounds_toArray, List.set_cons_zero, List.set_cons_succ]
  refine rv_rel (by kernel_rfl) rfl ⟨_, rfl⟩ (by
    intro w hG hH
    refine opVal_call (by go_simp; first | done | exact ⟨⟨rfl, rfl⟩, rfl⟩) ?_
    refine (CS.out _ hG).mono ?_
    rintro e w' ⟨rfl, hq⟩
    exact ⟨_, rfl, rfl, by first | (obtain ⟨nq, rfl⟩ := hq; exact (KB.refl _ _).drewN _) | (subst hq; exact KB.refl _ _) | exact hq, trivial⟩) ?_
  rintro v rfl
  simp only [Act.put, List.setIfInBounds_toArray, List.set_cons_zero, List.set_cons_succ]
  refine rv_rel (by kernel_rfl) rfl ⟨.slice (some ⟨_, 0, none⟩) 2 2, _, rfl, Nat.le_refl _⟩ (fun w hG hH => opVal_rowN hG (by go_simp; first | done | rfl)) ?_
  rintro v ⟨nb, rfl, hnb⟩
  simp only [Act.put, List.setIfInBounds_toArray, List.set_cons_zero, List.set_cons_succ]
  refine rv_rel (by kernel_rfl) rfl ⟨_, rfl⟩ (by
    intro w hG hH
    refine opVal_call (by go_simp; first | done | exact ⟨⟨rfl, rfl⟩, rfl⟩) ?_
    refine (OR.out nb _ (rowN_heap (hH (10, _) List.mem_cons_self (by kernel_rfl)))).mono ?_
    rintro e w' ⟨rfl, hq⟩
    exact ⟨_, rfl, rfl, by first | (obtain ⟨nq, rfl⟩ := hq; exact (KB.refl _ _).drewN _) | (subst hq; exact KB.refl _ _) | exact hq, trivial⟩) ?_
  rintro v rfl
  simp only [Act.put, List.setIfInBounds_toArray, List.set_cons_zero, List.set_cons_succ]
  refine rv_det (by kernel_rfl) rfl (by intro w hG hH; go_simp; first | done | with_reducible rfl) ?_
  simp only [Act.put, List.setIfInBounds_toArray, List.set_cons_zero, List.set_cons_succ]
  refine rv_nil (fun w hG hH => ?_)
  have K := Lib.hid (KW.out.trans hG)
  clear hG hH x0 x1 y0 y1
  go_wp2_with fail
  go_ret
  exact ⟨rfl, K.out⟩
end Go.Proofs.YtpigppghcghpbaaGreatDoor

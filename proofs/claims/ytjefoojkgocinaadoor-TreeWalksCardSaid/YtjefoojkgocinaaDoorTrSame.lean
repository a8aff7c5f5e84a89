/- tree.Same, Deep; loanwordref03.Equal, Same. -/
import Derived.Test.YtjefoojkgocinaaDoorTreeY
import Derived.Test.YtjefoojkgocinaaDoorTrJoin
namespace Go.Proofs.YtjefoojkgocinaaDoor
open Go.RowKit

theorem equal_any (la lb : Option Addr) (xs ys : List Int) (c d : Nat) (w : World) (_hx : xs.length ≤ 9223372036854775807) (_hy : ys.length ≤ 9223372036854775807) (h1 : IntsAt w la xs) (h2 : IntsAt w lb ys) :
    Calls Tryd.prog 37 #[.slice la xs.length c, .slice lb ys.length d] w fun e w' => e = .returned (.bool (decide (xs = ys))) ∧ KB F0 w w' := by
  by_cases hn : xs.length = ys.length
  · by_cases h0 : xs.length = 0
    · have e1 : xs = [] := List.eq_nil_of_length_eq_zero h0
      have e2 : ys = [] := List.eq_nil_of_length_eq_zero (by omega)
      subst e1; subst e2
      refine (Tryd.slices_Equal_int_empty la lb c 0 d w (by omega)).mono ?_
      rintro e w' ⟨rfl, rfl⟩
      exact ⟨rfl, KB.refl _ _⟩
    · obtain ⟨b1, o1, rfl, -⟩ := h1 0 (by omega)
      obtain ⟨b2, o2, rfl, -⟩ := h2 0 (by omega)
      refine (Tryd.slices_Equal_int b1 o1 xs.length c b2 o2 ys.length d xs ys w (Nat.le_refl _) (Nat.le_refl _) (by omega) (by omega) (fun j hj => ?_) (fun j hj => ?_)).mono ?_
      · obtain ⟨b', o', e, hc⟩ := h1 j hj
        simp only [Option.some.injEq, Addr.mk.injEq, and_true] at e
        obtain ⟨rfl, rfl⟩ := e
        exact hc
      · obtain ⟨b', o', e, hc⟩ := h2 j hj
        simp only [Option.some.injEq, Addr.mk.injEq, and_true] at e
        obtain ⟨rfl, rfl⟩ := e
        exact hc
      · rintro e w' ⟨rfl, n, rfl⟩
        refine ⟨ret_eq ?_, (KB.refl _ _).drewN _⟩
        rw [List.take_of_length_le (Nat.le_refl _), List.take_of_length_le (Nat.le_refl _)]
        congr 1
        rw [Bool.eq_iff_iff]; simp
  · refine (Tryd.slices_Equal_int_lens la lb xs.length c ys.length d w hn).mono ?_
    rintro e w' ⟨rfl, rfl⟩
    refine ⟨ret_eq ?_, KB.refl _ _⟩
    rw [decide_eq_false (fun e => hn (by rw [e]))]

theorem bytes_inj2 {a b : ByteArray} (h : a.toList = b.toList) : a = b := by
  rw [ByteArray.toList_eq, ByteArray.toList_eq] at h
  exact Go.WideShapes.bytes_inj h
/-- Two nodes, but for At. -/
def eqNd (x y : Nd) : Bool := decide (x.k = y.k) && decide (x.n = y.n) && decide (x.s = y.s) && decide (x.l = y.l)
def eqP (p : Bool) (x y : Nd) : Bool := eqNd x y && (!p || decide (x.at_ = y.at_))
def eqT (p : Bool) (a b : List Nd) : Bool := decide (a.length = b.length) && (List.range a.length).all (fun i => eqP p (a.getD i nd0) (b.getD i nd0))
def sameN (a b : List Nd) : Bool := mayN a && mayN b && eqT false a b
def ndV (x : Nd) (la : Option Addr) (lc : Nat) : Value := .agg #[.int .u8 (x.k : Nat), .int .i64 x.at_, .int .i64 x.n, .string x.s, .slice la x.l.length lc]

set_option maxRecDepth 100000 in
set_option maxHeartbeats 8000000 in
theorem same1_any (x y : Nd) (hx : NdOk x) (hy : NdOk y) (la lb : Option Addr) (lc ld : Nat) (w : World) (hxl : x.l.length ≤ 9223372036854775807) (hyl : y.l.length ≤ 9223372036854775807) (h1 : IntsAt w la x.l) (h2 : IntsAt w lb y.l) :
    Calls Tryd.prog 36 #[ndV x la lc, ndV y lb ld] w fun e w' => e = .returned (.bool (eqNd x y)) ∧ KB F0 w w' := by
  obtain ⟨w0, rfl⟩ : ∃ w0, w0 = w := ⟨_, rfl⟩
  have kA : ∀ o1 o2, KB F0 w0 ((w0.alloc o1).alloc o2) := fun o1 o2 => ((KB.refl _ _).alloc _).alloc _
  have He := Lib.hid (fun (W : World) (h : KB F0 w0 W) => equal_any la lb x.l y.l lc ld W hxl hyl (h1.kbF h) (h2.kbF h))
  obtain ⟨r, hr⟩ : ∃ r, r = eqNd x y := ⟨_, rfl⟩
  rw [← hr]
  have Hr : Hid (r = (decide (x.k = y.k) && decide (x.n = y.n) && decide (x.s = y.s) && decide (x.l = y.l))) := Lib.hid hr
  have hxk := hx.k
  have hyk := hy.k
  obtain ⟨xk, xat, xn, xs, xl⟩ := x
  obtain ⟨yk, yat, yn, ys, yl⟩ := y
  simp only at *
  obtain ⟨M, hM⟩ : ∃ M, M = xl.length := ⟨_, rfl⟩
  obtain ⟨M2, hM2⟩ : ∃ M2, M2 = yl.length := ⟨_, rfl⟩
  unfold ndV
  simp only
  rw [← hM, ← hM2] at He ⊢
  have HkA := Lib.hid kA
  clear hr hM hM2 h1 h2 hx hy kA
  by_cases hk : xk = yk
  · subst hk
    by_cases hn : xn = yn
    · subst hn
      by_cases hs : xs = ys
      · subst hs
        have Hr2 : Hid (r = decide (xl = yl)) := Lib.hid (by rw [Hr.out]; simp)
        generalize decide (xl = yl) = q at He Hr2
        go_enter Tryd.func36, Tryd.ntmps36
        go_wp2_with fail
        refine (He.out _ (HkA.out _ _)).mono ?_
        rintro e w2 ⟨rfl, hk2⟩
        have HK := Lib.hid ((HkA.out _ _).trans hk2)
        clear hk2
        go_wp2
        go_ret
        exact ⟨ret_eq (by rw [Hr2.out]; rfl), HK.out⟩
      · have Hr2 : Hid (r = false) := Lib.hid (by rw [Hr.out, decide_eq_false hs]; simp)
        have d2 : ¬ xs.toList = ys.toList := fun e => hs (bytes_inj2 e)
        have d1 : (xs.toList == ys.toList) = false := by simpa using d2
        go_enter Tryd.func36, Tryd.ntmps36
        go_wp2
        go_ret
        exact ⟨ret_eq (by rw [Hr2.out]; rfl), HkA.out _ _⟩
    · have Hr2 : Hid (r = false) := Lib.hid (by rw [Hr.out, decide_eq_false hn]; simp)
      have d1 : (xn == yn) = false := by simpa using hn
      go_enter Tryd.func36, Tryd.ntmps36
      go_wp2
      go_ret
      exact ⟨ret_eq (by rw [Hr2.out]; rfl), HkA.out _ _⟩
  · have Hr2 : Hid (r = false) := Lib.hid (by rw [Hr.out, decide_eq_false hk]; simp)
    have d1 : ((xk : Int) == (yk : Int)) = false := by simp; omega
    go_enter Tryd.func36, Tryd.ntmps36
    go_wp2
    go_ret
    exact ⟨ret_eq (by rw [Hr2.out]; rfl), HkA.out _ _⟩
theorem eqT_step {p : Bool} {a b : List Nd} (h : a.length = b.length) (hall : ∀ i, i < a.length → eqP p (a.getD i nd0) (b.getD i nd0) = true) : eqT p a b = true := by
  unfold eqT
  rw [decide_eq_true h, Bool.true_and, List.all_eq_true]
  intro i hi
  exact hall i (List.mem_range.1 hi)
theorem eqT_fail {p : Bool} {a b : List Nd} {i : Nat} (hi : i < a.length) (hf : eqP p (a.getD i nd0) (b.getD i nd0) = false) : eqT p a b = false := by
  unfold eqT
  rw [Bool.and_eq_false_iff]
  right
  rw [List.all_eq_false]
  exact ⟨i, List.mem_range.2 hi, by rw [hf]; decide⟩
theorem eqT_len {p : Bool} {a b : List Nd} (h : a.length ≠ b.length) : eqT p a b = false := by
  unfold eqT
  rw [decide_eq_false h, Bool.false_and]

set_option maxRecDepth 100000 in
set_option maxHeartbeats 8000000 in
theorem equalFunc_any (ts us : List Nd) (hl : ts.length < 100000000) (hok : ∀ x ∈ ts, NdOk x) (hok2 : ∀ x ∈ us, NdOk x) (a b : Option Addr) (c d : Nat) (w : World) (h1 : NodesAt w a ts) (h2 : NodesAt w b us) :
    Calls Tryd.prog 35 #[.slice a ts.length c, .slice b us.length d, .func (.func 36) #[] #[]] w fun e w' => e = .returned (.bool (eqT false ts us)) ∧ KB F0 w w' := by
  obtain ⟨w0, rfl⟩ : ∃ w0, w0 = w := ⟨_, rfl⟩
  obtain ⟨r, hr⟩ : ∃ r, r = eqT false ts us := ⟨_, rfl⟩
  rw [← hr]
  have Hr := Lib.hid hr
  clear hr
  by_cases hn : ts.length = us.length
  · rw [← hn]
    obtain ⟨N, hN⟩ : ∃ N, N = ts.length := ⟨_, rfl⟩
    have Hstep := Lib.hid (fun hall => eqT_step (p := false) (a := ts) (b := us) hn hall)
    have Hfail := Lib.hid (fun i hi hf => eqT_fail (p := false) (a := ts) (b := us) (i := i) hi hf)
    rw [← hN] at hl Hstep Hfail ⊢
    have HN := Lib.hid hN
    have HN2 : Hid (N = us.length) := Lib.hid (by rw [hN, hn])
    have HTS := Lib.hid (And.intro h1 (And.intro h2 (And.intro hok hok2)))
    clear hN hn h1 h2 hok hok2
    go_enter Tryd.func35, Tryd.ntmps35
    go_wp2_with fail
    go_loopw [17] (fun kv wr => ∃ k : Nat, k ≤ N ∧ kv = .int .i64 k ∧ KB F0 w0 wr ∧ Hid (∀ i, i < k → eqP false (ts.getD i nd0) (us.getD i nd0) = true)) (fun kv _ => N - (intOf kv).toNat)
    case atStart => exact ⟨0, by omega, rfl, KB.refl _ _, Lib.hid (fun i hi => by omega)⟩
    case round =>
      obtain ⟨k, hk, rfl, hkb, hall⟩ := hrel
      by_cases hlt : k < N
      · obtain ⟨b1, o1, rfl, hx0⟩ := HTS.out.1 k (by rw [← HN.out]; exact hlt)
        obtain ⟨b2, o2, rfl, hy0⟩ := HTS.out.2.1 k (by rw [← HN2.out]; exact hlt)
        have hxo := HTS.out.2.2.1 _ (getD_memN (ts := ts) (k := k) (by rw [← HN.out]; exact hlt))
        have hyo := HTS.out.2.2.2 _ (getD_memN (ts := us) (k := k) (by rw [← HN2.out]; exact hlt))
        have Hf := Lib.hid (Hfail.out k hlt)
        have Hn : Hid (eqP false (ts.getD k nd0) (us.getD k nd0) = true → ∀ i, i < k + 1 → eqP false (ts.getD i nd0) (us.getD i nd0) = true) := Lib.hid (fun h i hi => by
          rcases Nat.lt_or_eq_of_le (Nat.lt_succ_iff.1 hi) with h' | rfl
          · exact hall.out i h'
          · exact h)
        generalize ts.getD k nd0 = x at hx0 hxo Hf Hn
        generalize us.getD k nd0 = y at hy0 hyo Hf Hn
        have hx := hx0.kbF hkb
        have hy := hy0.kbF hkb
        obtain ⟨la, lc, hl4, hi1, hlc, hlm⟩ := hx.l
        obtain ⟨lb, ld, hm4, hi2, hld, hlm2⟩ := hy.l
        have c0 := hx.k
        have c1 := hx.at_
        have c2 := hx.n
        have c3 := hx.s
        have e0 := hy.k
        have e1 := hy.at_
        have e2 := hy.n
        have e3 := hy.s
        have kS : KB F0 wr (wr.alloc (.cells #[.int .u8 (x.k : Nat), .int .i64 x.at_, .int .i64 x.n, .string x.s, .slice la x.l.length lc] 25)) := (KB.refl _ _).alloc _
        have f0 := kS.cell (p := ⟨b2, o2 + k * 5, none⟩) (fun x => x) e0
        have f1 := kS.cell (p := ⟨b2, o2 + k * 5 + 1, none⟩) (fun x => x) e1
        have f2 := kS.cell (p := ⟨b2, o2 + k * 5 + 2, none⟩) (fun x => x) e2
        have f3 := kS.cell (p := ⟨b2, o2 + k * 5 + 3, none⟩) (fun x => x) e3
        have f4 := kS.cell (p := ⟨b2, o2 + k * 5 + 4, none⟩) (fun x => x) hm4
        unfold maxLen at hlm hlm2
        have hsz1 : x.l.length ≤ 9223372036854775807 := by omega
        have hsz2 : y.l.length ≤ 9223372036854775807 := by omega
        have Hc := Lib.hid (fun (W : World) (h : KB F0 wr W) => same1_any x y hxo hyo la lb lc ld W hsz1 hsz2 (hi1.kbF h) (hi2.kbF h))
        unfold ndV at Hc
        have HK := Lib.hid hkb
        have He : Hid (eqNd x y = eqP false x y) := Lib.hid (by simp [eqP])
        generalize eqNd x y = q at Hc He
        clear hx0 hy0 hx hy hi1 hi2 hxo hyo hkb kS hall e0 e1 e2 e3 hm4
        go_wp2_with fail
        refine (Hc.out _ (((KB.refl _ _).alloc _).alloc _)).mono ?_
        rintro e w2 ⟨rfl, hk2⟩
        have HK2 := Lib.hid (HK.out.trans ((((KB.refl F0 wr).alloc _).alloc _).trans hk2))
        clear hk2 c0 c1 c2 c3 f0 f1 f2 f3 f4 hl4 Hc
        cases q
        · have hr2 : Hid (r = false) := Lib.hid (by rw [Hr.out]; exact Hf.out He.out.symm)
          go_wp2
          go_ret
          exact ⟨ret_eq (by rw [hr2.out]; rfl), HK2.out⟩
        · have hall2 := Lib.hid (Hn.out He.out.symm)
          go_wp2
          go_roundw
          case rel => exact ⟨k + 1, by omega, by go_num, HK2.out, hall2⟩
          case measure => simp [intOf]; omega
      · obtain rfl : k = N := by omega
        have hr2 : Hid (r = true) := Lib.hid (by rw [Hr.out]; exact Hstep.out hall.out)
        clear hall
        go_wp2
        go_ret
        exact ⟨ret_eq (by rw [hr2.out]; rfl), hkb⟩
  · have hr2 : Hid (r = false) := Lib.hid (by rw [Hr.out]; exact eqT_len hn)
    generalize ts.length = N at *
    generalize us.length = M at *
    have d1 : ((N : Int) != (M : Int)) = true := by simp; omega
    have d2 : ((N : Int) == (M : Int)) = false := by simp; omega
    clear hn h1 h2
    go_enter Tryd.func35, Tryd.ntmps35
    go_wp2
    go_ret
    exact ⟨ret_eq (by rw [hr2.out]; rfl), KB.refl _ _⟩

set_option maxRecDepth 100000 in
set_option maxHeartbeats 8000000 in
theorem same_any (ts us : List Nd) (hl : ts.length < 100000000) (hl2 : us.length < 100000000) (hok : ∀ x ∈ ts, NdOk x) (hok2 : ∀ x ∈ us, NdOk x) (a b : Option Addr) (c d : Nat) (w : World) (h1 : NodesAt w a ts) (h2 : NodesAt w b us) (hT : Tab w) :
    Calls Tryd.prog 17 #[.agg #[.slice a ts.length c], .agg #[.slice b us.length d]] w fun e w' => e = .returned (.bool (sameN ts us)) ∧ KB F0 w w' := by
  obtain ⟨w0, rfl⟩ : ∃ w0, w0 = w := ⟨_, rfl⟩
  have M1 := Lib.hid (fun (W : World) (h : KB F0 w0 W) => may_any ts hl hok a c W (h1.kbF h) (hT.kb h))
  have M2 := Lib.hid (fun (W : World) (h : KB F0 w0 W) => may_any us hl2 hok2 b d W (h2.kbF h) (hT.kb h))
  have E1 := Lib.hid (fun (W : World) (h : KB F0 w0 W) => equalFunc_any ts us hl hok hok2 a b c d W (h1.kbF h) (h2.kbF h))
  obtain ⟨r, hr⟩ : ∃ r, r = sameN ts us := ⟨_, rfl⟩
  rw [← hr]
  have Hr : Hid (r = (mayN ts && mayN us && eqT false ts us)) := Lib.hid hr
  generalize mayN ts = m1 at *
  generalize mayN us = m2 at *
  generalize eqT false ts us = q at *
  generalize ts.length = N at *
  generalize us.length = M at *
  obtain ⟨W1, hW1⟩ : ∃ W1, W1 = ((w0.alloc (.cells #[.slice a N c] 31)).alloc (.cells #[.slice b M d] 31)) := ⟨_, rfl⟩
  have k1 : KB F0 w0 W1 := by rw [hW1]; exact ((KB.refl _ _).alloc _).alloc _
  have hs0 : (w0.alloc (.cells #[.slice a N c] 31)).heap.size = w0.heap.size + 1 := by simp
  have b0 : W1.cell? ⟨w0.heap.size, 0, none⟩ = some (.slice a N c) := by
    rw [hW1]; exact ((KB.refl F0 _).alloc _).cell (p := ⟨w0.heap.size, 0, none⟩) (fun x => x) (new_cell _ _ _ 0)
  have b1 : W1.cell? ⟨w0.heap.size + 1, 0, none⟩ = some (.slice b M d) := by
    rw [hW1, ← hs0]; exact new_cell _ _ _ 0
  have HW1 := Lib.hid hW1
  have K1 := Lib.hid k1
  clear hr h1 h2 hT hok hok2 k1 hs0 hW1
  cases m1
  · have hr2 : Hid (r = false) := Lib.hid (by rw [Hr.out]; simp)
    go_enter Tryd.func17, Tryd.ntmps17
    go_wp2_with fail
    rw [← HW1.out]
    refine (M1.out W1 K1.out).mono ?_
    rintro e W2 ⟨rfl, hk2⟩
    have K2 := Lib.hid (K1.out.trans hk2)
    clear hk2
    go_wp2
    go_ret
    exact ⟨ret_eq (by rw [hr2.out]; rfl), K2.out⟩
  · cases m2
    · have hr2 : Hid (r = false) := Lib.hid (by rw [Hr.out]; simp)
      go_enter Tryd.func17, Tryd.ntmps17
      go_wp2_with fail
      rw [← HW1.out]
      refine (M1.out W1 K1.out).mono ?_
      rintro e W2 ⟨rfl, hk2⟩
      have K2 := Lib.hid (K1.out.trans hk2)
      have b1 := hk2.cell (p := ⟨w0.heap.size + 1, 0, none⟩) (fun x => x) b1
      clear hk2
      go_wp2_with fail
      refine (M2.out W2 K2.out).mono ?_
      rintro e W3 ⟨rfl, hk3⟩
      have K3 := Lib.hid (K2.out.trans hk3)
      clear hk3
      go_wp2
      go_ret
      exact ⟨ret_eq (by rw [hr2.out]; rfl), K3.out⟩
    · have hr2 : Hid (r = q) := Lib.hid (by rw [Hr.out]; simp)
      go_enter Tryd.func17, Tryd.ntmps17
      go_wp2_with fail
      rw [← HW1.out]
      refine (M1.out W1 K1.out).mono ?_
      rintro e W2 ⟨rfl, hk2⟩
      have K2 := Lib.hid (K1.out.trans hk2)
      have b1 := hk2.cell (p := ⟨w0.heap.size + 1, 0, none⟩) (fun x => x) b1
      have b0 := hk2.cell (p := ⟨w0.heap.size, 0, none⟩) (fun x => x) b0
      clear hk2
      go_wp2_with fail
      refine (M2.out W2 K2.out).mono ?_
      rintro e W3 ⟨rfl, hk3⟩
      have K3 := Lib.hid (K2.out.trans hk3)
      have b1 := hk3.cell (p := ⟨w0.heap.size + 1, 0, none⟩) (fun x => x) b1
      have b0 := hk3.cell (p := ⟨w0.heap.size, 0, none⟩) (fun x => x) b0
      clear hk3
      go_wp2_with fail
      refine (E1.out W3 K3.out).mono ?_
      rintro e W4 ⟨rfl, hk4⟩
      have K4 := Lib.hid (K3.out.trans hk4)
      clear hk4
      go_wp2
      go_ret
      exact ⟨ret_eq (by rw [hr2.out]; rfl), K4.out⟩

/-- How deep, or 0. -/
def deepR (ts : List Nd) : Nat := if mayN ts = true then deepN ts else 0
set_option maxRecDepth 100000 in
theorem tdeepR_any (ts : List Nd) (hl : ts.length < 100000000) (hok : ∀ x ∈ ts, NdOk x) (a : Option Addr) (c : Nat) (w : World) (h1 : NodesAt w a ts) (hT : Tab w) :
    Calls Tryd.prog 25 #[.agg #[.slice a ts.length c]] w fun e w' => e = .returned (.int .i64 (deepR ts : Nat)) ∧ KB F0 w w' := by
  obtain ⟨w0, rfl⟩ : ∃ w0, w0 = w := ⟨_, rfl⟩
  have M1 := Lib.hid (fun (W : World) (h : KB F0 w0 W) => may_any ts hl hok a c W (h1.kbF h) (hT.kb h))
  have D1 := Lib.hid (fun (hm : mayN ts = true) (W : World) (h : KB F0 w0 W) => deep_any ts (by have := (may_parts hm).2.1; omega) (may_parts hm).1 a c W (h1.kbF h))
  obtain ⟨r, hr⟩ : ∃ r, r = deepR ts := ⟨_, rfl⟩
  rw [← hr]
  have Hr : Hid (r = if mayN ts = true then deepN ts else 0) := Lib.hid hr
  generalize mayN ts = m1 at *
  generalize deepN ts = q at *
  generalize ts.length = N at *
  have b0 : (w0.alloc (.cells #[.slice a N c] 31)).cell? ⟨w0.heap.size, 0, none⟩ = some (.slice a N c) := new_cell _ _ _ 0
  have K1 := Lib.hid ((KB.refl F0 w0).alloc (.cells #[.slice a N c] 31))
  clear hr h1 hT hok
  cases m1
  · have hr2 : Hid (r = 0) := Lib.hid (by rw [Hr.out]; simp)
    go_enter Tryd.func25, Tryd.ntmps25
    go_wp2_with fail
    refine (M1.out _ K1.out).mono ?_
    rintro e W2 ⟨rfl, hk2⟩
    have K2 := Lib.hid (K1.out.trans hk2)
    clear hk2
    go_wp2
    go_ret
    exact ⟨ret_eq (by rw [hr2.out]; rfl), K2.out⟩
  · have hr2 : Hid (r = q) := Lib.hid (by rw [Hr.out]; simp)
    go_enter Tryd.func25, Tryd.ntmps25
    go_wp2_with fail
    refine (M1.out _ K1.out).mono ?_
    rintro e W2 ⟨rfl, hk2⟩
    have K2 := Lib.hid (K1.out.trans hk2)
    have b0 := hk2.cell (p := ⟨w0.heap.size, 0, none⟩) (fun x => x) b0
    clear hk2
    go_wp2_with fail
    refine (D1.out trivial W2 K2.out).mono ?_
    rintro e W3 ⟨rfl, hk3⟩
    have K3 := Lib.hid (K2.out.trans hk3)
    clear hk3
    go_wp2
    go_ret
    exact ⟨ret_eq (by rw [hr2.out]; rfl), K3.out⟩
/-- tree.Walk: an iterator over what above says. -/
def walkD (ts : List Nd) : List Nat := if mayN ts = true then aboveL ts else []
set_option maxRecDepth 100000 in
theorem twalk_any (ts : List Nd) (hl : ts.length < 100000000) (hok : ∀ x ∈ ts, NdOk x) (a : Option Addr) (c : Nat) (w : World) (h1 : NodesAt w a ts) (hT : Tab w) :
    Calls Tryd.prog 27 #[.agg #[.slice a ts.length c]] w fun e w' => ∃ b v, e = .returned (.func (.func 50) #[] #[.pointer (some ⟨b, 0, none⟩)]) ∧ w'.cell? ⟨b, 0, none⟩ = some v ∧ w'.ownsRow w.heap.size 3 1 v (walkD ts).length (nats (walkD ts)) ∧ KB F0 w w' := by
  obtain ⟨w0, rfl⟩ : ∃ w0, w0 = w := ⟨_, rfl⟩
  have M1 := Lib.hid (fun (W : World) (h : KB F0 w0 W) => may_any ts hl hok a c W (h1.kbF h) (hT.kb h))
  have A1 := Lib.hid (fun (hm : mayN ts = true) (W : World) (h : KB F0 w0 W) => above_any ts (by have := (may_parts hm).2.1; omega) (may_parts hm).1.1 (good_down (may_parts hm).1) a c W (h1.kbF h))
  have hal := aboveN_len ts ts.length
  change (aboveL ts).length = _ at hal
  obtain ⟨r, hr⟩ : ∃ r, r = walkD ts := ⟨_, rfl⟩
  rw [← hr]
  have Hr : Hid (r = if mayN ts = true then aboveL ts else []) := Lib.hid hr
  generalize mayN ts = m1 at *
  generalize aboveL ts = q at *
  generalize ts.length = N at *
  have Hal := Lib.hid hal
  obtain ⟨W1, hW1⟩ : ∃ W1, W1 = ((w0.alloc (.cells #[.slice a N c] 31)).alloc (.cells #[.slice none 0 0] 23)) := ⟨_, rfl⟩
  have k1 : KB F0 w0 W1 := by rw [hW1]; exact ((KB.refl _ _).alloc _).alloc _
  have hs0 : (w0.alloc (.cells #[.slice a N c] 31)).heap.size = w0.heap.size + 1 := by simp
  have b0 : W1.cell? ⟨w0.heap.size, 0, none⟩ = some (.slice a N c) := by
    rw [hW1]; exact ((KB.refl F0 _).alloc _).cell (p := ⟨w0.heap.size, 0, none⟩) (fun x => x) (new_cell _ _ _ 0)
  have h1h : W1.heap[w0.heap.size + 1]? = some (.cells #[.slice none 0 0] 23 (0, 0)) := by
    rw [hW1, ← hs0]; exact alloc_new _ _
  have HW1 := Lib.hid hW1
  have K1 := Lib.hid k1
  clear hr h1 hT hok k1 hs0 hW1 hal
  cases m1
  · have hr2 : Hid (r = []) := Lib.hid (by rw [Hr.out]; simp)
    go_enter Tryd.func27, Tryd.ntmps27
    go_wp2_with fail
    rw [← HW1.out]
    refine (M1.out _ K1.out).mono ?_
    rintro e W2 ⟨rfl, hk2⟩
    have K2 := Lib.hid (K1.out.trans hk2)
    have h2h := Lib.hid (hk2.heap (fun x => x) h1h)
    clear hk2
    go_wp2
    go_ret
    exact ⟨_, _, rfl, blk_cell h2h.out 0, by rw [hr2.out]; exact World.ownsRow_nil _ _ _ _, K2.out⟩
  · have hr2 : Hid (r = q) := Lib.hid (by rw [Hr.out]; simp)
    go_enter Tryd.func27, Tryd.ntmps27
    go_wp2_with fail
    rw [← HW1.out]
    refine (M1.out _ K1.out).mono ?_
    rintro e W2 ⟨rfl, hk2⟩
    have K2 := Lib.hid (K1.out.trans hk2)
    have b0 := hk2.cell (p := ⟨w0.heap.size, 0, none⟩) (fun x => x) b0
    have h2h := hk2.heap (fun x => x) h1h
    clear hk2
    go_wp2_with fail
    refine (A1.out trivial W2 K2.out).mono ?_
    rintro e W3 ⟨v, rfl, hown, hk3⟩
    have h3h := hk3.heap (fun x => x) h2h
    have c3 : W3.cell? ⟨w0.heap.size + 1, 0, none⟩ = some (.slice none 0 0) := blk_cell h3h 0
    have f3 := blk_frozen h3h 0
    obtain ⟨a2, c2, rfl, -⟩ := own_shape hown
    have hO := setCell_blk (i := 0) h3h (.slice a2 N c2)
    have hk4 := (K2.out.trans hk3).setCell (p := ⟨w0.heap.size + 1, 0, none⟩) (fun h => by
      have h1 : w0.heap.size + 1 < w0.heap.size := h; omega) (.slice a2 N c2)
    have hown4 := (own_kb hown (kb_set W3 (w0.heap.size + 1) 0 (.slice a2 N c2)) (fun g e1 e2 => by
      obtain ⟨cu, h5, -⟩ := own_block hown e1
      rw [e2, h3h] at h5; cases h5))
    have HF := Lib.hid (And.intro hO (And.intro hk4 (own_base hown4 K2.out.size)))
    clear hown hk3 h3h hO hk4 hown4
    go_wp2
    go_ret
    exact ⟨_, _, rfl, blk_cell HF.out.1 0, by rw [hr2.out, Hal.out]; exact HF.out.2.2, HF.out.2.1⟩
end Go.Proofs.YtjefoojkgocinaaDoor

/- slices.ContainsFunc over fields, whatever is asked; types.drops. types.Words, Drops; layout.Field. -/
import Derived.Test.YtaeppaaolkcbbaaGreatDoorMg08
namespace Go.Proofs.YtaeppaaolkcbbaaGreatDoor
open Go.RowKit

set_option maxRecDepth 100000 in
set_option maxHeartbeats 16000000 in
theorem ixFdsG_any (g : FuncId) (cap : Array Value) (hen : ∀ args W, (callFunc g args).run Tryz.prog W = .ok (.enter g args) W) (q : Ty → Bool) (l : List Ty) (hl : l.length ≤ 1000000) (a : Option Addr) (c : Nat) (w : World) (hn : ∀ nm f fa fc W, f ∈ l → KB F0 w W → TyAt 49 W f fa fc → Calls Tryz.prog g (#[fdV nm f fa fc] ++ cap) W fun e w' => e = .returned (.bool (q f)) ∧ KB F0 W w') (h : FdsAt 49 w a l) :
    Calls Tryz.prog 89 #[.slice a l.length c, .func (.func g) #[] cap] w fun e w' => ∃ k : Int, e = .returned (.int .i64 k) ∧ decide (0 ≤ k) = l.any q ∧ KB F0 w w' := by
  obtain ⟨w0, rfl⟩ : ∃ w0, w0 = w := ⟨_, rfl⟩
  obtain ⟨L, hL⟩ : ∃ L, L = l.length := ⟨_, rfl⟩
  rw [← hL] at hl ⊢
  have HH := Lib.hid (And.intro hn (And.intro h hL))
  clear hn h hL
  go_enter Tryz.func89, Tryz.ntmps89
  go_wp2_with fail
  go_loopw [8] (fun kv wr => ∃ k : Nat, k ≤ L ∧ kv = .int .i64 (k : Nat) ∧ Hid (KB F0 w0 wr ∧ ∀ j, j < k → q (l.getD j ty0) = false)) (fun kv _ => L - (intOf kv).toNat)
  case atStart => exact ⟨0, by omega, rfl, Lib.hid ⟨KB.refl _ _, fun j hj => by omega⟩⟩
  case round =>
    obtain ⟨k, hk, rfl, hst⟩ := hrel
    by_cases hlt : k < L
    · have hkI : (k : Int) < (L : Int) := by omega
      have dk : decide ((k : Int) < (L : Int)) = true := decide_eq_true hkI
      obtain ⟨b, o, nm, a', c', rfl, hnm, hty, hta⟩ := HH.out.2.1 k (by rw [← HH.out.2.2]; exact hlt)
      have n0 := hst.out.1.cell (p := ⟨b, o + k * 6, none⟩) (fun x => x) hnm
      obtain ⟨t0, t1, t2, t3, t4⟩ := hty.kbF hst.out.1
      have CL := HH.out.1 nm (l.getD k ty0) a' c' wr (by rw [List.getD_eq_getElem?_getD, List.getElem?_eq_getElem (by rw [← HH.out.2.2]; exact hlt)]; exact List.getElem_mem _) hst.out.1 (hta.kbF hst.out.1)
      unfold fdV at CL
      obtain ⟨qv, hq⟩ : ∃ qv, qv = q (l.getD k ty0) := ⟨_, rfl⟩
      rw [← hq] at CL
      have HQ := Lib.hid hq
      have CL2 := Lib.hid CL
      generalize l.getD k ty0 = f at t0 t1 t2 t3 t4 CL2
      clear hnm hty hta CL hq
      generalize f.k = fk at *
      generalize f.m = fm at *
      generalize f.r = fr at *
      generalize f.s = fs at *
      generalize f.of.length = N at *
      go_wp2_with fail
      refine CL2.out.mono ?_
      rintro e w1 ⟨rfl, k1⟩
      have K1 := Lib.hid (hst.out.1.trans k1)
      clear k1 n0 t0 t1 t2 t3 t4
      cases qv with
      | true =>
        have HA : Hid (decide ((0 : Int) ≤ (k : Int)) = l.any q) := Lib.hid (by
          rw [any_getD (d := ty0) (by rw [← HH.out.2.2]; exact hlt) HQ.out.symm]
          exact decide_eq_true (by omega))
        go_wp2_with fail
        go_ret
        exact ⟨_, rfl, HA.out, K1.out⟩
      | false =>
        have HN : Hid (KB F0 w0 w1 ∧ ∀ j, j < k + 1 → q (l.getD j ty0) = false) := Lib.hid ⟨K1.out, fun j hj => by
          rcases Nat.lt_or_eq_of_le (Nat.lt_succ_iff.1 hj) with h1 | rfl
          · exact hst.out.2 j h1
          · exact HQ.out.symm⟩
        go_wp2_with fail
        exact ⟨⟨k + 1, by omega, by go_num, HN⟩, by simp [intOf]; omega⟩
    · obtain rfl : k = L := by omega
      have dk : decide ((k : Int) < (k : Int)) = false := decide_eq_false (by omega)
      have HA : Hid (decide ((0 : Int) ≤ -1) = l.any q) := Lib.hid (by
        rw [any_none (d := ty0) (fun i hi => hst.out.2 i (by rw [HH.out.2.2]; exact hi))]
        exact decide_eq_false (by omega))
      have HK := Lib.hid hst.out.1
      clear hst
      go_wp2_with fail
      go_ret
      exact ⟨_, rfl, HA.out, HK.out⟩
set_option maxRecDepth 100000 in
set_option maxHeartbeats 16000000 in
theorem ctFdsG_any (g : FuncId) (cap : Array Value) (hen : ∀ args W, (callFunc g args).run Tryz.prog W = .ok (.enter g args) W) (q : Ty → Bool) (l : List Ty) (hl : l.length ≤ 1000000) (a : Option Addr) (c : Nat) (w : World) (hn : ∀ nm f fa fc W, f ∈ l → KB F0 w W → TyAt 49 W f fa fc → Calls Tryz.prog g (#[fdV nm f fa fc] ++ cap) W fun e w' => e = .returned (.bool (q f)) ∧ KB F0 W w') (h : FdsAt 49 w a l) :
    Calls Tryz.prog 66 #[.slice a l.length c, .func (.func g) #[] cap] w fun e w' => e = .returned (.bool (l.any q)) ∧ KB F0 w w' := by
  obtain ⟨w0, rfl⟩ : ∃ w0, w0 = w := ⟨_, rfl⟩
  have IX := Lib.hid (ixFdsG_any g cap hen q l hl a c w0 hn h)
  clear hn h hl
  generalize l.length = L at IX ⊢
  generalize l.any q = r at IX ⊢
  go_enter Tryz.func66, Tryz.ntmps66
  go_wp2_with fail
  refine IX.out.mono ?_
  rintro e w1 ⟨k, rfl, rfl, hk⟩
  have K := Lib.hid hk
  clear hk IX
  go_wp2_with fail
  all_goals
    go_ret
    exact ⟨ret_eq (by first | rfl | simp_all), K.out⟩
/-- Does a type need dropping? -/
def drF (S : List (List Ty)) : Nat → Ty → Bool
  | 0, _ => false
  | n + 1, t => if t.k = 3 then true else if t.k = 5 then (fds S t.s.toNat).any (drF S n) else false
theorem lyEn {g : FuncId} {fn : Func} (hf : Tryz.prog.funcs[g]? = some fn) (hn : fn.name ≠ "runtime.NumGoroutine") (hb : fn.body ≠ none) (args : Array Value) (W : World) : (callFunc g args).run Tryz.prog W = .ok (.enter g args) W := by
  simp [callFunc, hf, hn, hb]
set_option maxRecDepth 100000 in
set_option maxHeartbeats 32000000 in
theorem tydrops_any {S : List (List Ty)} (hg : GoodS S) (a : Option Addr) (c : Nat) : ∀ (n : Nat) (t : Ty) (ta : Option Addr) (tc : Nat) (w : World), FinD S n t → InT S t → StsAt 49 w a S →
    Calls Tryz.prog 61 #[.slice a S.length c, tyV t ta tc] w fun e w' => e = .returned (.bool (drF S n t)) ∧ KB F0 w w' := by
  intro n
  induction n with
  | zero => intro t ta tc w h; exact h.elim
  | succ n ih =>
    intro t ta tc w hfin hin h
    obtain ⟨w0, rfl⟩ : ∃ w0, w0 = w := ⟨_, rfl⟩
    obtain ⟨V, hV⟩ : ∃ V, V = w0.alloc (.cells #[.slice a S.length c] 22) := ⟨_, rfl⟩
    have kV : KB F0 w0 V := by rw [hV]; exact (KB.refl _ _).alloc _
    have hbV : V.heap[w0.heap.size]? = some (.cells #[.slice a S.length c] 22 (0, 0)) := by rw [hV]; exact alloc_new _ _
    have hsV : V.heap.size = w0.heap.size + 1 := by rw [hV]; simp
    obtain ⟨W, hW⟩ : ∃ W, W = V.alloc (.cells #[.int .u8 t.k, .bool t.m, .int .i64 t.r, .int .i64 t.s, .slice ta t.of.length tc] 26) := ⟨_, rfl⟩
    obtain ⟨kb, hb⟩ := boxTy V t ta tc
    rw [← hW] at kb hb
    have HW : Hid (W = (w0.alloc (.cells #[.slice a S.length c] 22)).alloc (.cells #[.int .u8 t.k, .bool t.m, .int .i64 t.r, .int .i64 t.s, .slice ta t.of.length tc] 26)) := Lib.hid (by rw [hW, hV])
    have hbW := kb.heap (fun x => x) hbV
    have HB := Lib.hid (And.intro (kV.trans kb) (And.intro hbW h))
    rw [hsV] at hb
    have g0 : W.cell? ⟨w0.heap.size + 1, 0, none⟩ = some (.int .u8 t.k) := blk_cell hb 0
    have g3 : W.cell? ⟨w0.heap.size + 1, 3, none⟩ = some (.int .i64 t.s) := blk_cell hb 3
    have gs : W.cell? ⟨w0.heap.size, 0, none⟩ = some (.slice a S.length c) := blk_cell hbW 0
    clear kb hb hW kV hbV hV hbW hsV
    by_cases h3 : t.k = 3
    · have HR : Hid (drF S (n + 1) t = true) := Lib.hid (by unfold drF; rw [if_pos h3])
      rw [HR.out]
      rw [h3] at g0 HW
      unfold tyV
      rw [h3]
      generalize t.m = tm at HW ⊢
      generalize t.r = tr at HW ⊢
      generalize t.s = ts at HW g3 ⊢
      generalize t.of.length = tl at HW ⊢
      clear h3 hfin hin h ih hg
      go_enter Tryz.func61, Tryz.ntmps61
      go_upto_region 1 with fail
      rw [← HW.out]
      go_wp2_with fail
      go_ret
      exact ⟨rfl, HB.out.1⟩
    · have hk3 : (t.k == 3) = false := by simpa using h3
      by_cases h5 : t.k = 5
      · obtain ⟨u, hu⟩ : ∃ u : Nat, t.s = (u : Int) := ⟨t.s.toNat, by have := hin h5; omega⟩
        have hun : t.s.toNat = u := by omega
        have huL : u < S.length := by have := hin h5; omega
        have huI : (u : Int) < (S.length : Int) := by omega
        obtain ⟨sb, so, snm, sfa, sfc, rfl, -, hsl0, hsc, hfd⟩ := HB.out.2.2 u huL
        have hsl := HB.out.1.cell (p := ⟨sb, so + u * 2 + 1, none⟩) (fun x => x) hsl0
        have hFu : S.getD u [] = fds S u := rfl
        rw [hFu] at hsl hsc hfd
        have CT := Lib.hid (ctFdsG_any 88 #[.pointer (some ⟨w0.heap.size, 0, none⟩)] (lyEn (fn := Tryz.f88) Tryz.func88 (by decide) (fun e => by cases e)) (drF S n) (fds S u) (by have := hg.len8 u; omega) sfa sfc W (fun nm f fa fc X hf hX hty => by
          obtain ⟨w1, rfl⟩ : ∃ w1, w1 = X := ⟨_, rfl⟩
          obtain ⟨Y, hY⟩ : ∃ Y, Y = w1.alloc (.cells #[.string nm, .int .u8 f.k, .bool f.m, .int .i64 f.r, .int .i64 f.s, .slice fa f.of.length fc] 83) := ⟨_, rfl⟩
          have kY : KB F0 w1 Y := by rw [hY]; exact (KB.refl _ _).alloc _
          have hbY : Y.heap[w1.heap.size]? = some (.cells #[.string nm, .int .u8 f.k, .bool f.m, .int .i64 f.r, .int .i64 f.s, .slice fa f.of.length fc] 83 (0, 0)) := by rw [hY]; exact alloc_new _ _
          have IH := Lib.hid (ih f fa fc Y (hfin h5 f (by rw [hun]; exact hf)) (hg.inR.inT hf) (HB.out.2.2.kbF (HB.out.1.trans (hX.trans kY))))
          have HY := Lib.hid hY
          have KY := Lib.hid kY
          have y1 := blk_cell hbY 1
          have y2 := blk_cell hbY 2
          have y3 := blk_cell hbY 3
          have y4 := blk_cell hbY 4
          have y5 := blk_cell hbY 5
          have ys : Y.cell? ⟨w0.heap.size, 0, none⟩ = some (.slice (some ⟨sb, so, none⟩) S.length c) := (hX.trans kY).cell (p := ⟨w0.heap.size, 0, none⟩) (fun x => x) gs
          simp at y1 y2 y3 y4 y5
          clear hY kY hbY hX hty hf gs g0 g3 hsl hsl0 hsc hfd
          unfold tyV at IH
          unfold fdV
          generalize drF S n f = dv at IH ⊢
          generalize f.k = fk at *
          generalize f.m = fm at *
          generalize f.r = fr at *
          generalize f.s = fs at *
          generalize f.of.length = N at *
          go_enter Tryz.func88, Tryz.ntmps88
          go_upto_region 1 with fail
          rw [← HY.out]
          go_wp2_with fail
          refine IH.out.mono ?_
          rintro e w3 ⟨rfl, k3⟩
          have K3 := Lib.hid (KY.out.trans k3)
          clear k3
          go_wp2_with fail
          go_ret
          exact ⟨rfl, K3.out⟩) (hfd.kbF HB.out.1))
        have HR : Hid (drF S (n + 1) t = (fds S u).any (drF S n)) := Lib.hid (by show (if t.k = 3 then true else if t.k = 5 then (fds S t.s.toNat).any (drF S n) else false) = _; rw [if_neg h3, if_pos h5, hun])
        rw [HR.out]
        rw [hu] at g3 HW
        rw [h5] at g0 HW
        unfold tyV
        rw [h5, hu]
        generalize t.m = tm at HW ⊢
        generalize t.r = tr at HW ⊢
        generalize t.of.length = tl at HW ⊢
        generalize (fds S u).length = Lf at hsl hsc CT
        generalize (fds S u).any (drF S n) = rv at CT ⊢
        clear h3 h5 hfin hin h ih hg hsl0 hfd hun hu hFu huL
        go_enter Tryz.func61, Tryz.ntmps61
        go_upto_region 1 with fail
        rw [← HW.out]
        go_wp2_with fail
        refine CT.out.mono ?_
        rintro e w3 ⟨rfl, k3⟩
        have K3 := Lib.hid (HB.out.1.trans k3)
        clear k3
        go_wp2_with fail
        go_ret
        exact ⟨rfl, K3.out⟩
      · have hk5 : (t.k == 5) = false := by simpa using h5
        have HR : Hid (drF S (n + 1) t = false) := Lib.hid (by unfold drF; rw [if_neg h3, if_neg h5])
        rw [HR.out]
        unfold tyV
        generalize t.k = tk at g0 HW hk3 hk5 ⊢
        generalize t.m = tm at HW ⊢
        generalize t.r = tr at HW ⊢
        generalize t.s = ts at HW g3 ⊢
        generalize t.of.length = tl at HW ⊢
        clear h3 h5 hfin hin h ih hg
        go_enter Tryz.func61, Tryz.ntmps61
        go_upto_region 1 with fail
        rw [← HW.out]
        go_wp2_with fail
        go_ret
        exact ⟨rfl, HB.out.1⟩
end Go.Proofs.YtaeppaaolkcbbaaGreatDoor

namespace Go.Proofs.YtaeppaaolkcbbaaGreatDoor
open Go.RowKit

theorem tywords_good {S : List (List Ty)} (hg : GoodS S) (a : Option Addr) (c : Nat) (t : Ty) (hin : InT S t) (ta : Option Addr) (tc : Nat) (w : World) (h : StsAt 49 w a S) :
    Calls Tryz.prog 62 #[.slice a S.length c, tyV t ta tc] w fun e w' => e = .returned (.int .i64 (wF S 34 t : Nat)) ∧ KB F0 w w' := by
  have h1 := tyWords_any S hg.inR hg.len (fun i => Nat.le_trans (hg.len8 i) (by omega)) 49 a c 34 t ta tc w (hg.fin t) hin h
  have h2 := hg.w16 34 t (hg.fin t) hin
  rw [Nat.min_eq_left (by omega)] at h1
  exact h1
/-- What types.Words answers. -/
def tyWEnd (S : List (List Ty)) (t : Ty) (w : World) (e : Ending) (w' : World) : Prop :=
  (MayT S t ∧ e = .returned (.tuple #[.int .i64 (wF S 34 t : Nat), .int .i64 0]) ∧ KB F0 w w') ∨ (¬ MayT S t ∧ e = .returned (.tuple #[.int .i64 0, .int .i64 2]) ∧ KB F0 w w')
set_option maxRecDepth 100000 in
set_option maxHeartbeats 16000000 in
theorem tyW_any (S : List (List Ty)) (hn : S.length ≤ 1000000) (hl : ∀ i, (fds S i).length ≤ 1000000) (a : Option Addr) (c : Nat) (hc : S.length ≤ c) (t : Ty) (ta : Option Addr) (tc : Nat) (w : World) (h : StsAt 49 w a S) (ht : TyAt 49 w t ta tc) :
    Calls Tryz.prog 32 #[.slice a S.length c, tyV t ta tc] w (tyWEnd S t w) := by
  obtain ⟨w0, rfl⟩ : ∃ w0, w0 = w := ⟨_, rfl⟩
  obtain ⟨W, hW⟩ : ∃ W, W = w0.alloc (.cells #[.int .u8 t.k, .bool t.m, .int .i64 t.r, .int .i64 t.s, .slice ta t.of.length tc] 26) := ⟨_, rfl⟩
  obtain ⟨kb, hb⟩ := boxTy w0 t ta tc
  rw [← hW] at kb hb
  have MY := Lib.hid (tyMay_any S hn hl a c hc t ta tc W (h.kbF kb) (ht.kbF kb))
  have HW := Lib.hid hW
  have HB := Lib.hid (And.intro kb (And.intro hb (And.intro h ht)))
  obtain ⟨c0, c1, c2, c3, c4⟩ := TyCells.of_block hb
  clear kb hb hW h ht hn hl hc
  unfold tyV at MY ⊢
  go_enter Tryz.func32, Tryz.ntmps32
  go_upto_region 1 with fail
  rw [← HW.out]
  go_wp2_with fail
  refine MY.out.mono ?_
  rintro e w2 ⟨ok, rfl, hok, k2⟩
  have hb2 := k2.heap (fun x => x) HB.out.2.1
  have HK := Lib.hid (And.intro (HB.out.1.trans k2) hok)
  clear k2 hok c0 c1 c2 c3 c4
  have d0 := blk_cell hb2 0
  have d1 := blk_cell hb2 1
  have d2 := blk_cell hb2 2
  have d3 := blk_cell hb2 3
  have d4 := blk_cell hb2 4
  simp at d0 d1 d2 d3 d4
  clear hb2
  cases ok
  case false =>
    have hno : ¬ MayT S t := fun hm => by have := HK.out.2.2 hm; cases this
    go_wp2_with fail
    go_ret2
    exact Or.inr ⟨hno, rfl, HK.out.1⟩
  case true =>
    have hm : MayT S t := HK.out.2.1 rfl
    have CT := Lib.hid (tywords_good hm.1 a c t (look_inT hm.2) ta tc w2 (HB.out.2.2.1.kbF HK.out.1))
    have HM := Lib.hid hm
    clear hm
    unfold tyV at CT
    go_wp2_with fail
    refine CT.out.mono ?_
    rintro e w3 ⟨rfl, k3⟩
    have K3 := Lib.hid (HK.out.1.trans k3)
    clear k3 d0 d1 d2 d3 d4
    go_wp2_with fail
    go_ret2
    exact Or.inl ⟨HM.out, rfl, K3.out⟩
/-- What types.Drops answers. -/
def tyDEnd (S : List (List Ty)) (t : Ty) (w : World) (e : Ending) (w' : World) : Prop :=
  (MayT S t ∧ e = .returned (.tuple #[.bool (drF S 34 t), .int .i64 0]) ∧ KB F0 w w') ∨ (¬ MayT S t ∧ e = .returned (.tuple #[.bool false, .int .i64 2]) ∧ KB F0 w w')
set_option maxRecDepth 100000 in
set_option maxHeartbeats 16000000 in
theorem tyD_any (S : List (List Ty)) (hn : S.length ≤ 1000000) (hl : ∀ i, (fds S i).length ≤ 1000000) (a : Option Addr) (c : Nat) (hc : S.length ≤ c) (t : Ty) (ta : Option Addr) (tc : Nat) (w : World) (h : StsAt 49 w a S) (ht : TyAt 49 w t ta tc) :
    Calls Tryz.prog 31 #[.slice a S.length c, tyV t ta tc] w (tyDEnd S t w) := by
  obtain ⟨w0, rfl⟩ : ∃ w0, w0 = w := ⟨_, rfl⟩
  obtain ⟨W, hW⟩ : ∃ W, W = w0.alloc (.cells #[.int .u8 t.k, .bool t.m, .int .i64 t.r, .int .i64 t.s, .slice ta t.of.length tc] 26) := ⟨_, rfl⟩
  obtain ⟨kb, hb⟩ := boxTy w0 t ta tc
  rw [← hW] at kb hb
  have MY := Lib.hid (tyMay_any S hn hl a c hc t ta tc W (h.kbF kb) (ht.kbF kb))
  have HW := Lib.hid hW
  have HB := Lib.hid (And.intro kb (And.intro hb (And.intro h ht)))
  obtain ⟨c0, c1, c2, c3, c4⟩ := TyCells.of_block hb
  clear kb hb hW h ht hn hl hc
  unfold tyV at MY ⊢
  go_enter Tryz.func31, Tryz.ntmps31
  go_upto_region 1 with fail
  rw [← HW.out]
  go_wp2_with fail
  refine MY.out.mono ?_
  rintro e w2 ⟨ok, rfl, hok, k2⟩
  have hb2 := k2.heap (fun x => x) HB.out.2.1
  have HK := Lib.hid (And.intro (HB.out.1.trans k2) hok)
  clear k2 hok c0 c1 c2 c3 c4
  have d0 := blk_cell hb2 0
  have d1 := blk_cell hb2 1
  have d2 := blk_cell hb2 2
  have d3 := blk_cell hb2 3
  have d4 := blk_cell hb2 4
  simp at d0 d1 d2 d3 d4
  clear hb2
  cases ok
  case false =>
    have hno : ¬ MayT S t := fun hm => by have := HK.out.2.2 hm; cases this
    go_wp2_with fail
    go_ret2
    exact Or.inr ⟨hno, rfl, HK.out.1⟩
  case true =>
    have hm : MayT S t := HK.out.2.1 rfl
    have CT := Lib.hid (tydrops_any hm.1 a c 34 t ta tc w2 (hm.1.fin t) (look_inT hm.2) (HB.out.2.2.1.kbF HK.out.1))
    have HM := Lib.hid hm
    clear hm
    unfold tyV at CT
    go_wp2_with fail
    refine CT.out.mono ?_
    rintro e w3 ⟨rfl, k3⟩
    have K3 := Lib.hid (HK.out.1.trans k3)
    clear k3 d0 d1 d2 d3 d4
    go_wp2_with fail
    go_ret2
    exact Or.inl ⟨HM.out, rfl, K3.out⟩
/-- The number of a field may be. -/
def FieldOk (S : List (List Ty)) (n k : Int) : Prop := GoodS S ∧ 0 ≤ n ∧ n < (S.length : Int) ∧ 0 ≤ k ∧ k < ((fds S n.toNat).length : Int)
def lyFEnd (S : List (List Ty)) (n k : Int) (w : World) (e : Ending) (w' : World) : Prop :=
  (FieldOk S n k ∧ e = .returned (.tuple #[.int .i64 (wsum S 34 n.toNat k.toNat : Nat), .int .i64 0]) ∧ KB F0 w w') ∨ (¬ FieldOk S n k ∧ e = .returned (.tuple #[.int .i64 0, .int .i64 2]) ∧ KB F0 w w')
set_option maxRecDepth 100000 in
set_option maxHeartbeats 16000000 in
theorem lyField_any (S : List (List Ty)) (hn : S.length ≤ 1000000) (hl : ∀ i, (fds S i).length ≤ 1000000) (a : Option Addr) (c : Nat) (hc : S.length ≤ c) (n k : Int) (w : World) (h : StsAt 49 w a S) :
    Calls Tryz.prog 13 #[.slice a S.length c, .int .i64 n, .int .i64 k] w (lyFEnd S n k w) := by
  obtain ⟨w0, rfl⟩ : ∃ w0, w0 = w := ⟨_, rfl⟩
  have ST := Lib.hid (tyStructs_any S hn hl a c hc w0 h)
  obtain ⟨LS, hLS⟩ : ∃ L, L = S.length := ⟨_, rfl⟩
  have HLS := Lib.hid (And.intro hLS h)
  rw [← hLS] at ST ⊢
  clear hn hl hc hLS
  by_cases hn0 : n < 0
  · have hno : Hid (¬ FieldOk S n k) := Lib.hid (fun hf => by have := hf.2.1; omega)
    have t1 : decide (n < 0) = true := decide_eq_true hn0
    go_enter Tryz.func13, Tryz.ntmps13
    go_wp2_with fail
    refine ST.out.mono ?_
    rintro e w1 ⟨at_, ok, rfl, -, k1⟩
    have K1 := Lib.hid k1
    clear k1
    cases ok
    all_goals
      simp only [stErr]
      go_wp2_with fail
      go_ret2
      exact Or.inr ⟨hno.out, rfl, K1.out⟩
  have t1 : decide (n < 0) = false := decide_eq_false hn0
  obtain ⟨u, rfl⟩ := Int.eq_ofNat_of_zero_le (show 0 ≤ n by omega)
  have t1 : decide ((u : Int) < 0) = false := t1
  by_cases hnL : LS ≤ u
  · have hno : Hid (¬ FieldOk S (u : Nat) k) := Lib.hid (fun hf => by have := hf.2.2.1; have := HLS.out.1; omega)
    have t2 : decide (LS ≤ u) = true := decide_eq_true hnL
    go_enter Tryz.func13, Tryz.ntmps13
    go_wp2_with fail
    refine ST.out.mono ?_
    rintro e w1 ⟨at_, ok, rfl, -, k1⟩
    have K1 := Lib.hid k1
    clear k1
    cases ok
    all_goals
      simp only [stErr]
      go_wp2_with fail
      go_ret2
      exact Or.inr ⟨hno.out, rfl, K1.out⟩
  have t2 : decide (LS ≤ u) = false := decide_eq_false hnL
  have huL : u < S.length := by have := HLS.out.1; omega
  have huI : (u : Int) < (LS : Int) := by omega
  by_cases hk0 : k < 0
  · have hno : Hid (¬ FieldOk S (u : Nat) k) := Lib.hid (fun hf => by have := hf.2.2.2.1; omega)
    have t3 : decide (k < 0) = true := decide_eq_true hk0
    go_enter Tryz.func13, Tryz.ntmps13
    go_wp2_with fail
    refine ST.out.mono ?_
    rintro e w1 ⟨at_, ok, rfl, -, k1⟩
    have K1 := Lib.hid k1
    clear k1
    cases ok
    all_goals
      simp only [stErr]
      go_wp2_with fail
      go_ret2
      exact Or.inr ⟨hno.out, rfl, K1.out⟩
  have t3 : decide (k < 0) = false := decide_eq_false hk0
  obtain ⟨q, rfl⟩ := Int.eq_ofNat_of_zero_le (show 0 ≤ k by omega)
  have t3 : decide ((q : Int) < 0) = false := t3
  obtain ⟨sb, so, snm, sfa, sfc, rfl, -, hsl, hsc, hfd⟩ := h u huL
  obtain ⟨Lf, hLf⟩ : ∃ L, L = (S.getD u []).length := ⟨_, rfl⟩
  rw [← hLf] at hsl hsc
  by_cases hqL : Lf ≤ q
  · have hno : Hid (¬ FieldOk S (u : Nat) (q : Nat)) := Lib.hid (fun hf => by have := hf.2.2.2.2; rw [Int.toNat_natCast] at this; have e : (fds S u).length = Lf := hLf.symm; omega)
    have t4 : decide (Lf ≤ q) = true := decide_eq_true hqL
    clear h hfd hLf huL
    go_enter Tryz.func13, Tryz.ntmps13
    go_wp2_with fail
    refine ST.out.mono ?_
    rintro e w1 ⟨at_, ok, rfl, -, k1⟩
    have hsl1 := k1.cell (p := ⟨sb, so + u * 2 + 1, none⟩) (fun x => x) hsl
    have K1 := Lib.hid k1
    clear k1 hsl
    cases ok
    all_goals
      simp only [stErr]
      go_wp2_with fail
      go_ret2
      exact Or.inr ⟨hno.out, rfl, K1.out⟩
  have t4 : decide (Lf ≤ q) = false := decide_eq_false hqL
  have HU := Lib.hid (And.intro huL hLf)
  clear h hfd hLf huL
  go_enter Tryz.func13, Tryz.ntmps13
  go_wp2_with fail
  refine ST.out.mono ?_
  rintro e w1 ⟨at_, ok, rfl, hE, k1⟩
  have hsl1 := k1.cell (p := ⟨sb, so + u * 2 + 1, none⟩) (fun x => x) hsl
  have K1 := Lib.hid k1
  have HE := Lib.hid hE.good
  clear k1 hsl hE
  cases ok
  case false =>
    have hno : Hid (¬ FieldOk S (u : Nat) (q : Nat)) := Lib.hid (fun hf => by have := HE.out.2 hf.1; cases this)
    simp only [stErr]
    go_wp2_with fail
    go_ret2
    exact Or.inr ⟨hno.out, rfl, K1.out⟩
  case true =>
    have hg := HE.out.1 rfl
    have FD := Lib.hid (lyfield_any S hg 49 (some ⟨sb, so, none⟩) c u HU.out.1 q (by have e : Lf = (fds S u).length := HU.out.2; omega) w1 (HLS.out.2.kbF K1.out))
    rw [← HLS.out.1] at FD
    have HO : Hid (FieldOk S (u : Nat) (q : Nat)) := Lib.hid ⟨hg, by omega, by have := HU.out.1; omega, by omega, by rw [Int.toNat_natCast]; have e : Lf = (fds S u).length := HU.out.2; omega⟩
    clear hg
    simp only [stErr]
    go_wp2_with fail
    refine FD.out.mono ?_
    rintro e w2 ⟨rfl, k2⟩
    have K2 := Lib.hid (K1.out.trans k2)
    clear k2 hsl1
    go_wp2_with fail
    go_ret2
    exact Or.inl ⟨HO.out, rfl, K2.out⟩
end Go.Proofs.YtaeppaaolkcbbaaGreatDoor

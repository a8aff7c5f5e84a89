/- loanwordref09.cut, Prefixes. loanwordref09.Held at any structs. -/
import Derived.Test.YtpigppghcghpbaaGreatDoorMg40
import Derived.Test.YtpigppghcghpbaaGreatDoorMg36
namespace Go.Proofs.YtpigppghcghpbaaGreatDoor
open Go.RowKit

theorem run_append_steps {w : World} (base : Nat) (hbase : base ≤ w.heap.size) {la : Option Addr} {M lc : Nat} {v : Value} {xs : List Int} (hown : OwnI w base v xs) (l : List Int) (hM : M = l.length) (hl : IntsAt w la l) (hb : M ≤ 200000) (hn : xs.length ≤ 200000) (ty : TypeId) :
    ∃ v' w', (Builtin.append_ #[24, 24] ty #[v, .slice la M lc]).run Tryz.prog w = .ok v' w' ∧ OwnI w' base v' (xs ++ l) ∧ w.grownBy w' v.ownBlock := by
  obtain ⟨i, hi, hz0, hz1, hz2⟩ := info_parts Tryz.infoStep
  by_cases h0 : M = 0
  · subst h0
    have e1 : l = [] := List.eq_nil_of_length_eq_zero hM.symm
    subst e1
    rw [List.append_nil]
    cases la with
    | none => exact ⟨_, _, run_append_owned_none2 (P := Tryz.prog) (w := w) base 24 ty 56 i 1 Tryz.underlying24 hi _ _ _ lc hown, hown, ⟨rfl, rfl, rfl, Nat.le_refl _, fun _ _ _ => rfl⟩⟩
    | some p =>
      obtain ⟨v', w', hr, h1, h2, -⟩ := run_append_own (P := Tryz.prog) w base 24 ty 56 i _ 1 8 Tryz.underlying24 hi hz0 hz1 hz2 rfl (by decide) _ _ _ hown p 0 lc [] rfl (fun j u hj => by simp at hj) (fun u hu => by cases hu) (by unfold maxLen; omega) (by omega) hbase
      rw [Nat.add_zero, List.append_nil] at h1
      exact ⟨v', w', hr, h1, h2⟩
  · obtain ⟨b, off, rfl, -⟩ := hl 0 (by omega)
    obtain ⟨v', w', hr, h1, h2, -⟩ := run_append_own (P := Tryz.prog) w base 24 ty 56 i _ 1 8 Tryz.underlying24 hi hz0 hz1 hz2 rfl (by decide) _ _ _ hown ⟨b, off, none⟩ M lc (ints l) (by rw [ints_len]; omega) (fun j u hj => by
      have hjl : j < l.length := by
        have := (List.getElem?_eq_some_iff.1 hj).1
        rwa [ints_len] at this
      obtain ⟨b', off', e, hc⟩ := hl j hjl
      simp only [Option.some.injEq, Addr.mk.injEq, and_true] at e
      obtain ⟨rfl, rfl⟩ := e
      rw [ints_get hjl] at hj
      obtain rfl := Option.some.inj hj
      rw [show ((⟨b, off, none⟩ : Addr).add j) = ⟨b, off + j, none⟩ by unfold Addr.add; split <;> simp_all]
      exact hc) ints_one (by unfold maxLen; omega) (by omega) hbase
    refine ⟨v', w', hr, ?_, h2⟩
    unfold OwnI
    rw [List.length_append, ints_app, ← hM]
    exact h1
/-- A copy made by 'append(nil, l...)' within a drawn region. -/
theorem opVal_copy {o : Oper} {act : Act} {w : World} (s x : Operand) (ho : o.op = .call { callee := .builtin .append, args := #[s, x], argTypes := #[24, 24] }) (hs : act.eval s = .slice none 0 0) {la : Option Addr} {M lc : Nat} (hx : act.eval x = .slice la M lc)
    (l : List Int) (hM : M = l.length) (hl : IntsAt w la l) (hb : M ≤ 200000) (B : Nat) (hB : B ≤ w.heap.size) :
    OpVal Tryz.prog o act w (fun v w' => (∃ va vc, v = .slice va M vc) ∧ KB F0 w w' ∧ OwnI w' B v l) := by
  obtain ⟨v', w', hr, h1, h2⟩ := run_append_steps w.heap.size (Nat.le_refl _) (ownI_nil w _) l hM hl hb (by simp) o.type
  rw [List.nil_append] at h1
  refine opVal_value (v := v') (w' := w') ?_ ⟨?_, KB.of_grown h2 (fun k hk => by cases hk), own_base h1 hB⟩
  · unfold execOp
    simp only [ho, resolve, invoke, builtin, Sem.run_bind, Sem.run_pure, Result.andThen_ok, List.map_toArray, List.map_cons, List.map_nil, hs, hx]
    rw [hr]; rfl
  · obtain ⟨a, c, e, -⟩ := h1.at
    exact ⟨a, c, by rw [e, hM]⟩
set_option maxRecDepth 100000 in
set_option maxHeartbeats 8000000 in
theorem rcut_any (p : Pl) (n : Nat) (hn : n ≤ p.path.length) (a : Option Addr) (c : Nat) (w : World) (h : PlAt w p a c) :
    Calls Tryz.prog 49 #[plV p a c, .int .i64 n] w fun e w' => ∃ v, e = .returned (.agg #[.int .i64 p.loc, v]) ∧ OwnI w' w.heap.size v (p.path.take n) ∧ KB F0 w w' := by
  obtain ⟨w0, rfl⟩ : ∃ w0, w0 = w := ⟨_, rfl⟩
  have hsm := h.small
  have hcap := h.cap
  have HI := Lib.hid (fun (W : World) (hk : KB F0 w0 W) => (h.ints.kbF hk).take n)
  have hlen : (p.path.take n).length = n := by rw [List.length_take]; omega
  obtain ⟨x, xs⟩ := p
  unfold plV
  simp only at HI hlen hsm hcap hn ⊢
  obtain ⟨N, hN⟩ : ∃ N, N = xs.length := ⟨_, rfl⟩
  rw [← hN] at hsm hcap hn ⊢
  obtain ⟨l, hl⟩ : ∃ l, l = xs.take n := ⟨_, rfl⟩
  rw [← hl] at HI hlen ⊢
  have HLN := Lib.hid hlen
  have HS := Lib.hid (show n ≤ 200000 by omega)
  clear h hN hlen hl
  obtain ⟨hk, hb1, hb2, hb3, hs3⟩ := new3 w0 #[.int .i64 x, .slice a N c] #[.int .i64 0, .slice none 0 0] #[.int .i64 x, .slice none 0 0] 26 26 26
  obtain ⟨W2, hW2⟩ : ∃ W2, W2 = (((w0.alloc (.cells #[.int .i64 x, .slice a N c] 26)).alloc (.cells #[.int .i64 0, .slice none 0 0] 26)).alloc (.cells #[.int .i64 x, .slice none 0 0] 26)) := ⟨_, rfl⟩
  rw [← hW2] at hk hb1 hb2 hb3 hs3
  have x1 : W2.cell? ⟨w0.heap.size, 1, none⟩ = some (.slice a N c) := blk_cell hb1 1
  have o1 : W2.cell? ⟨w0.heap.size + 1 + 1, 1, none⟩ = some (.slice none 0 0) := blk_cell hb3 1
  have i1 : (n : Int) ≤ (N : Int) := by omega
  have i2 : (n : Int) ≤ (c : Int) := by omega
  have i3 : n ≤ c := by omega
  have HB := Lib.hid (And.intro hk (And.intro hb2 (And.intro hb3 hs3)))
  have HW := Lib.hid hW2
  clear hk hb1 hb2 hb3 hW2 hs3 hsm hcap hn
  go_enter Tryz.func49, Tryz.ntmps49
  go_wp2_with fail
  rw [← HW.out]
  refine wp_region_rv 8 GK (kindW [(6, (fun v => ∃ va vc, v = .slice va n vc), (fun v w => OwnI w W2.heap.size v l))]) (by kernel_rfl) (by kernel_rfl) (kb_trans _) (kb_refl _) (kb_start _ _) (kindW_mono _ (by intro p hp; simp only [List.mem_cons, List.not_mem_nil, or_false] at hp; subst hp; exact fun _ _ _ hG h => OwnI.kbF h hG)) ?_
  simp only [List.take_succ_cons, List.take_zero, List.drop_succ_cons, List.drop_zero]
  refine rv_det (by kernel_rfl) rfl (by intro w hG hH; go_simp; first | done | with_reducible rfl) ?_
  simp only [Act.put, List.setIfInBounds_toArray, List.set_cons_zero, List.set_cons_succ]
  refine rv_det (by kernel_rfl) rfl (by intro w hG hH; have hc0 := KB.cell hG (fun x => x) (o1); go_simp; first | done | with_reducible rfl) ?_
  simp only [Act.put, List.setIfInBounds_toArray, List.set_cons_zero, List.set_cons_succ]
  refine rv_det (by kernel_rfl) rfl (by intro w hG hH; go_simp; first | done | with_reducible rfl) ?_
  simp only [Act.put, List.setIfInBounds_toArray, List.set_cons_zero, List.set_cons_succ]
  refine rv_det (by kernel_rfl) rfl (by intro w hG hH; have hc0 := KB.cell hG (fun x => x) (x1); go_simp; first | done | with_reducible rfl) ?_
  simp only [Act.put, List.setIfInBounds_toArray, List.set_cons_zero, List.set_cons_succ]
  iterate 2 (refine rv_det (by kernel_rfl) rfl (by intro w hG hH; go_simp; first | done | with_reducible rfl) ?_; simp only [Act.put, List.setIfInBounds_toArray, List.set_cons_zero, List.set_cons_succ])
  refine rv_rel (by kernel_rfl) rfl ⟨.slice none n 0, _, _, rfl⟩ (fun w hG hH => opVal_copy _ _ rfl rfl rfl l HLN.out.symm (HI.out _ (HB.out.1.trans hG)) HS.out _ hG.size) ?_
  rintro v ⟨va, vc, rfl⟩
  simp only [Act.put, List.setIfInBounds_toArray, List.set_cons_zero, List.set_cons_succ]
  refine rv_det (by kernel_rfl) rfl (by intro w hG hH; go_simp; first | done | with_reducible rfl) ?_
  simp only [Act.put, List.setIfInBounds_toArray, List.set_cons_zero, List.set_cons_succ]
  refine rv_nil (fun w hG hH => ?_)
  have hv : OwnI w W2.heap.size (.slice va n vc) l := hH (6, _) List.mem_cons_self
  have KX := Lib.hid (HB.out.1.trans hG)
  have hb2 := hG.heap (fun x => x) HB.out.2.1
  have hb3 := hG.heap (fun x => x) HB.out.2.2.1
  have y0 : w.cell? ⟨w0.heap.size + 1 + 1, 0, none⟩ = some (.int .i64 x) := blk_cell hb3 0
  have y1 : w.cell? ⟨w0.heap.size + 1 + 1, 1, none⟩ = some (.slice none 0 0) := blk_cell hb3 1
  have z0 : w.cell? ⟨w0.heap.size + 1, 0, none⟩ = some (.int .i64 0) := blk_cell hb2 0
  have z1 : w.cell? ⟨w0.heap.size + 1, 1, none⟩ = some (.slice none 0 0) := blk_cell hb2 1
  have f1 := blk_frozen hb3 1
  have g0 := blk_frozen hb2 0
  have g1 := blk_frozen hb2 1
  have HV := Lib.hid (And.intro hv (And.intro hb2 hb3))
  clear hv hG hH x1 o1 hb2 hb3
  go_upto_region 3 with fail
  have hX : w0.heap.size ≤ w0.heap.size + 1 + 1 := by omega
  have hq2 : (w.setCell ⟨w0.heap.size + 1 + 1, 1, none⟩ (.slice va n vc)).heap[w0.heap.size + 1 + 1]? = some (.cells #[.int .i64 x, .slice va n vc] 26 (0, 0)) := setCell_blk (i := 1) HV.out.2.2 (.slice va n vc)
  have hq1 : (w.setCell ⟨w0.heap.size + 1 + 1, 1, none⟩ (.slice va n vc)).heap[w0.heap.size + 1]? = some (.cells #[.int .i64 0, .slice none 0 0] 26 (0, 0)) := (kb_set w (w0.heap.size + 1 + 1) 1 (.slice va n vc)).heap (fun e => by omega) HV.out.2.1
  have hown : OwnI (w.setCell ⟨w0.heap.size + 1 + 1, 1, none⟩ (.slice va n vc)) W2.heap.size (.slice va n vc) l := own_kb HV.out.1 (kb_set w (w0.heap.size + 1 + 1) 1 (.slice va n vc)) (fun g e1 e2 => by
    have h1 := (HV.out.1.lt g e1).1
    have h2 := HB.out.2.2.2
    omega)
  have HK := Lib.hid (kb_new KX.out hX 1 (.slice va n vc))
  generalize (w.setCell ⟨w0.heap.size + 1 + 1, 1, none⟩ (.slice va n vc)) = w3 at hq2 hq1 hown HK ⊢
  have HQ := Lib.hid (And.intro hq1 hown)
  clear y0 y1 z0 z1 f1 g0 g1
  have y0 : w3.cell? ⟨w0.heap.size + 1 + 1, 0, none⟩ = some (.int .i64 x) := blk_cell hq2 0
  have y1 : w3.cell? ⟨w0.heap.size + 1 + 1, 1, none⟩ = some (.slice va n vc) := blk_cell hq2 1
  have z0 : w3.cell? ⟨w0.heap.size + 1, 0, none⟩ = some (.int .i64 0) := blk_cell hq1 0
  have z1 : w3.cell? ⟨w0.heap.size + 1, 1, none⟩ = some (.slice none 0 0) := blk_cell hq1 1
  have g0 := blk_frozen hq1 0
  have g1 := blk_frozen hq1 1
  clear hq1 hq2 hown hX
  go_wp2_with fail
  refine ret_pl (X := w0.heap.size + 1) (x := x) (v := .slice va n vc) rfl rfl (setCell_blk (i := 1) (setCell_blk (i := 0) HQ.out.1 (.int .i64 x)) (.slice va n vc)) rfl ⟨_, rfl, ?_, kb_new (kb_new HK.out (Nat.le_succ _) 0 _) (Nat.le_succ _) 1 _⟩
  exact own_base (own_kb HQ.out.2 ((kb_set w3 (w0.heap.size + 1) 0 (.int .i64 x)).trans (kb_set _ (w0.heap.size + 1) 1 (.slice va n vc))) (fun g e1 e2 => by
    have h1 := (HQ.out.2.lt g e1).1
    have h2 := HB.out.2.2.2
    omega)) HB.out.1.size
set_option maxRecDepth 100000 in
set_option maxHeartbeats 8000000 in
theorem rpres_any (p : Pl) (a : Option Addr) (c : Nat) (w : World) (h : PlAt w p a c) :
    Calls Tryz.prog 25 #[plV p a c] w fun e w' => ∃ v vs, e = .returned v ∧ OwnPls w' w.heap.size v p.loc (presL p.path) vs ∧ KB F0 w w' := by
  obtain ⟨w0, rfl⟩ : ∃ w0, w0 = w := ⟨_, rfl⟩
  have hsm := h.small
  have CUT := Lib.hid (fun (n : Nat) (hn : n ≤ p.path.length) (W : World) (hk : KB F0 w0 W) => rcut_any p n hn a c W (h.kbF hk))
  obtain ⟨x, xs⟩ := p
  unfold plV at CUT ⊢
  simp only at CUT hsm ⊢
  obtain ⟨N, hN⟩ : ∃ N, N = xs.length := ⟨_, rfl⟩
  have HN := Lib.hid hN
  rw [← hN] at CUT hsm ⊢
  have hB := (KB.refl F0 w0).alloc (.cells #[.int .i64 x, .slice a N c] 26)
  obtain ⟨W1, hW1⟩ : ∃ W1, W1 = w0.alloc (.cells #[.int .i64 x, .slice a N c] 26) := ⟨_, rfl⟩
  have hb1 : W1.heap[w0.heap.size]? = some (.cells #[.int .i64 x, .slice a N c] 26 (0, 0)) := by rw [hW1]; exact alloc_new _ _
  rw [← hW1] at hB
  have x1 : W1.cell? ⟨w0.heap.size, 1, none⟩ = some (.slice a N c) := blk_cell hb1 1
  have HB := Lib.hid (And.intro hB hb1)
  have HW := Lib.hid hW1
  rw [hW1] at x1
  clear h hN hW1 hb1 hB
  go_enter Tryz.func25, Tryz.ntmps25
  go_wp2_with fail
  rw [← HW.out]
  clear x1
  go_loopw [3, 4] (fun lv kv wr => ∃ k vs, k ≤ N + 1 ∧ kv = .int .i64 (k : Nat) ∧ Hid (OwnPls wr W1.heap.size lv x (presK xs k) vs ∧ KB F0 W1 wr)) (fun _ kv _ => N + 1 - (intOf kv).toNat)
  case atStart => exact ⟨0, [], by omega, rfl, Lib.hid ⟨ownPls_nil _ _ _, KB.refl _ _⟩⟩
  case round =>
    obtain ⟨k, vs, hk, rfl, hst⟩ := hrel
    by_cases hlt : k < N + 1
    · have d1 : decide ((k : Int) ≤ (N : Int)) = true := decide_eq_true (by omega)
      have d1n : decide (k ≤ N) = true := decide_eq_true (by omega)
      have hkN : (k : Int) ≤ (N : Int) := by omega
      have bx := hst.out.2.heap (fun x => x) HB.out.2
      have x0 : wr.cell? ⟨w0.heap.size, 0, none⟩ = some (.int .i64 x) := blk_cell bx 0
      have x1 : wr.cell? ⟨w0.heap.size, 1, none⟩ = some (.slice a N c) := blk_cell bx 1
      have hwk : IntKind.i64.wrap ((k : Int) + 1) = ((k + 1 : Nat) : Int) := by rw [w64 (by omega) (by omega)]; omega
      clear bx
      go_wp2_with fail
      refine (CUT.out k (by omega) _ (HB.out.1.trans hst.out.2)).mono ?_
      rintro e w2 ⟨u, rfl, hu, k2⟩
      have hul : (xs.take k).length = k := by rw [List.length_take, ← HN.out]; omega
      obtain ⟨ua, uc, rfl, -, -, -⟩ := hu.at
      rw [hul] at hu ⊢
      have Hu := Lib.hid (And.intro hu k2)
      have hown := hst.out.1
      obtain ⟨la, lc, rfl⟩ := own_lenP hown.row
      rw [presK_len] at *
      clear hu k2 x0 x1
      go_wp2_with (at_builtin; refine Stopped.out ?_)
      refine ⟨?_⟩
      obtain ⟨nb, hnb⟩ : ∃ nb, nb = w2.heap.size := ⟨_, rfl⟩
      have ka := (KB.refl F0 w2).alloc (.cells #[.int .i64 x, .slice ua k uc] 26)
      have hnew := alloc_new w2 (.cells #[.int .i64 x, .slice ua k uc] 26)
      have hown2 := hown.kbF (Hu.out.2.trans ka)
      have hrow := hown2.row
      rw [presK_len] at hrow
      refine appRow 44 26 W1.heap.size [.int .i64 x, .slice ua k uc] Tryz.infoPlace Tryz.underlying44' (by decide) (by decide) hrow rfl rfl rfl rfl hnew rfl (by intro u hu; simp only [List.mem_cons, List.not_mem_nil, or_false] at hu; rcases hu with rfl | rfl <;> rfl) (by unfold maxLen; omega) (by omega) (hst.out.2.trans (Hu.out.2.trans ka)).size ?_
      intro v' w' hr' hg'
      have HP : Hid (OwnPls w' W1.heap.size v' x (presK xs (k + 1)) (vs ++ [.slice ua k uc]) ∧ KB F0 W1 w') := Lib.hid ⟨by
        rw [presK_succ]
        exact hown2.push (Hu.out.1.kbF ka) hst.out.2.size (fun i hi g e => ((hown.paths i hi).lt g e).2) (by rw [presK_len]; exact hr') hg',
        (hst.out.2.trans (Hu.out.2.trans ka)).grown hg' (own_ge hrow (Nat.le_refl _))⟩
      clear hr' hg' hown hown2 hrow hnew ka
      go_wp2_with fail
      refine ⟨⟨k + 1, _, by omega, by go_num, HP⟩, by simp [intOf]; omega⟩
    · obtain rfl : k = N + 1 := by omega
      have bx := hst.out.2.heap (fun x => x) HB.out.2
      have x1 : wr.cell? ⟨w0.heap.size, 1, none⟩ = some (.slice a N c) := blk_cell bx 1
      obtain ⟨M, hM⟩ : ∃ M, M = N + 1 := ⟨_, rfl⟩
      have HM := Lib.hid hM
      have d1 : decide ((M : Int) ≤ (N : Int)) = false := decide_eq_false (by omega)
      have d1n : decide (M ≤ N) = false := decide_eq_false (by omega)
      have hst2 := Lib.hid hst.out
      rw [← hM]
      clear bx hM
      obtain ⟨la, lc, rfl⟩ := own_lenP hst.out.1.row
      go_wp2_with fail
      go_ret
      refine ⟨_, vs, rfl, ?_, HB.out.1.trans hst.out.2⟩
      unfold presL
      rw [← HN.out]
      exact hst.out.1.base HB.out.1.size
end Go.Proofs.YtpigppghcghpbaaGreatDoor

namespace Go.Proofs.YtpigppghcghpbaaGreatDoor
open Go.RowKit

theorem take_held {hs : List Int} {k : Nat} (hk : k ≤ hs.length) (h1 : ∀ j, j < k → hs.getD j 0 < 2) (h2 : k < hs.length → 2 ≤ hs.getD k 0) : heldN hs = k := heldN_eq hk h1 h2
/-- What the document holds, of a place that may be. -/
def RHeld (p : Pl) (n : Nat) (w : World) (e : Ending) (w' : World) : Prop := KB F0 w w' ∧ ∃ v, e = .returned (.agg #[.int .i64 p.loc, v]) ∧ OwnI w' w.heap.size v (p.path.take n)
theorem rheld_of {p : Pl} {n : Nat} {w w' : World} {l : Int} {v : Value} (hl : l = p.loc) (hk : KB F0 w w') (hv : OwnI w' w.heap.size v (p.path.take n)) : RHeld p n w (.returned (.agg #[.int .i64 l, v])) w' := by subst hl; exact ⟨hk, v, rfl, hv⟩
set_option maxRecDepth 100000 in
set_option maxHeartbeats 64000000 in
theorem rwHeld_any (S : List (List Ty)) (hn : S.length ≤ 1000000) (hl : ∀ i, (fds S i).length ≤ 1000000) (sa : Option Addr) (sc : Nat) (hsc : S.length ≤ sc) (L : List Ty) (hll : L.length ≤ 1000000) (la : Option Addr) (lc : Nat) (p : Pl) (pa : Option Addr) (pc : Nat) (w : World) (hS : StsAt 49 w sa S) (hL : TysAt 49 w la L) (hp : PlAt w p pa pc) (hv : (wkP S L p).isSome = true) :
    Calls Tryz.prog 34 #[.slice sa S.length sc, .slice la L.length lc, plV p pa pc] w (RHeld p (heldN (hows (wkP S L p))) w) := by
  obtain ⟨w0, rfl⟩ : ∃ w0, w0 = w := ⟨_, rfl⟩
  obtain ⟨hk, hb1, hb2⟩ := new2 w0 #[.int .i64 p.loc, .slice pa p.path.length pc] #[.int .i64 0, .slice none 0 0] 26 26
  obtain ⟨W, hW⟩ : ∃ W, W = ((w0.alloc (.cells #[.int .i64 p.loc, .slice pa p.path.length pc] 26)).alloc (.cells #[.int .i64 0, .slice none 0 0] 26)) := ⟨_, rfl⟩
  rw [← hW] at hk hb1 hb2
  have WK := Lib.hid (rwWalk_any S hn hl sa sc hsc L hll la lc p pa pc W (hS.kbF hk) (hL.kbF hk) (hp.kbF hk))
  have hlen : (hows (wkP S L p)).length = p.path.length := hows_len hv
  have CU := Lib.hid (fun (n : Nat) (hn : n ≤ p.path.length) (V : World) (hV : KB F0 W V) => rcut_any p n hn pa pc V (hp.kbF (hk.trans hV)))
  have hNp : p.path.length ≤ 100000 := hp.small
  have x0 : W.cell? ⟨w0.heap.size, 0, none⟩ = some (.int .i64 p.loc) := blk_cell hb1 0
  have x1 : W.cell? ⟨w0.heap.size, 1, none⟩ = some (.slice pa p.path.length pc) := blk_cell hb1 1
  have HB := Lib.hid (And.intro hk (And.intro hb1 hb2))
  have HW := Lib.hid hW
  have HRN : Hid (∀ h e w', h = heldN (hows (wkP S L p)) → RHeld p h w0 e w' → RHeld p (heldN (hows (wkP S L p))) w0 e w') := Lib.hid (fun h e w' e1 h2 => e1 ▸ h2)
  unfold plV at WK CU ⊢
  obtain ⟨o, ho⟩ : ∃ o, o = wkP S L p := ⟨_, rfl⟩
  rw [← ho] at WK hlen HRN ⊢
  generalize S.length = nS at *
  generalize L.length = nL at *
  obtain ⟨hs, hhs⟩ : ∃ hs, hs = hows o := ⟨_, rfl⟩
  rw [← hhs] at hlen HRN ⊢
  have HHS := Lib.hid hhs
  obtain ⟨N, hN⟩ : ∃ N, N = p.path.length := ⟨_, rfl⟩
  obtain ⟨x, hx⟩ : ∃ x, x = p.loc := ⟨_, rfl⟩
  rw [← hN, ← hx]
  rw [← hN, ← hx] at WK CU HB HW
  rw [← hN] at hlen hNp x1
  rw [← hx] at x0
  have HE := Lib.hid (And.intro hN hx)
  have HLEN := Lib.hid hlen
  generalize RHeld p (heldN hs) w0 = EE at HRN ⊢
  clear hk hb1 hb2 hW hS hL hp hn hl ho hN hx hv hlen hhs
  go_enter Tryz.func34, Tryz.ntmps34
  go_upto_region 1 with fail
  rw [← HW.out]
  go_wp2_with fail
  refine WK.out.mono ?_
  rintro e w1 hE
  obtain ⟨k, m, r, s, va, vn, vc, ga, gc, rfl, ho, k1⟩ := wkV_of hE
  rw [← HHS.out, HLEN.out] at ho ⊢
  obtain ⟨w2, hw2⟩ : ∃ w2, w2 = w1.alloc (.cells #[.int .u8 k, .bool m, .int .i64 r, .int .i64 s, .slice va vn vc] 36) := ⟨_, rfl⟩
  have k2 := (KB.refl F0 w1).alloc (.cells #[.int .u8 k, .bool m, .int .i64 r, .int .i64 s, .slice va vn vc] 36)
  rw [← hw2] at k2
  have ho2 := own_kb ho k2 (fun _ _ x => x)
  have H2 := Lib.hid (And.intro (k1.trans k2) ho2)
  have HW2 := Lib.hid hw2
  have HC := Lib.hid (And.intro x0 x1)
  have HCL := Lib.hid (fun (i : Nat) (hi : i < N) => ints_at H2.out.2 HLEN.out.symm hi)
  clear hE ho k1 k2 ho2 hw2 x0 x1 WK
  go_upto_region 2 with fail
  rw [← HW2.out]
  go_wp2_with fail
  go_loopg [10] N (fun g iv wr => ∃ i : Nat, i ≤ N ∧ g = N - i ∧ iv = .int .i64 (i : Nat) ∧ wr = w2 ∧ Hid (∀ j, j < i → hs.getD j 0 < 2))
  case atStart => exact ⟨0, by omega, by omega, rfl, rfl, Lib.hid (fun j hj => by omega)⟩
  case round =>
    obtain ⟨i, hi, rfl, rfl, rfl, hst⟩ := hrel
    have CUT := Lib.hid (CU.out i hi)
    by_cases hlt : i < N
    · have hkI : (i : Int) < (N : Int) := by omega
      have dk : decide ((i : Int) < (N : Int)) = true := decide_eq_true hkI
      obtain ⟨g, rfl, hcl⟩ := HCL.out i hlt
      obtain ⟨h, hh⟩ : ∃ h, h = hs.getD i 0 := ⟨_, rfl⟩
      rw [← hh] at hcl
      by_cases h2 : h < 2
      · have d2 : decide (h < 2) = true := decide_eq_true h2
        have HX : Hid (∀ j, j < i + 1 → hs.getD j 0 < 2) := Lib.hid (fun j hj => by
          rcases Nat.lt_or_eq_of_le (Nat.lt_succ_iff.1 hj) with h1 | rfl
          · exact hst.out j h1
          · rw [← hh]; exact h2)
        clear hh h2
        go_wp2_with fail
        go_roundg (N - (i + 1))
        case measure => omega
        case rel => exact ⟨i + 1, by omega, rfl, by go_num, rfl, HX⟩
      · have d2 : decide (h < 2) = false := decide_eq_false h2
        have HH : Hid (i = heldN hs) := Lib.hid (heldN_eq (by rw [HLEN.out]; omega) hst.out (fun _ => by rw [← hh]; omega)).symm
        clear hh h2 hst
        have x0 := H2.out.1.cell (p := ⟨w0.heap.size, 0, none⟩) (fun x => x) HC.out.1
        have x1 := H2.out.1.cell (p := ⟨w0.heap.size, 1, none⟩) (fun x => x) HC.out.2
        go_wp2_with fail
        refine (CUT.out _ H2.out.1).mono ?_
        rintro e w4 ⟨v, rfl, ho4, k4⟩
        have HO4 := Lib.hid ho4
        obtain ⟨a, ln, n, rfl⟩ : ∃ a ln n, v = .slice a ln n := by
          obtain ⟨a, n, e⟩ := own_lenP ho4
          exact ⟨a, _, n, e⟩
        have hb4 := (H2.out.1.trans k4).heap (fun x => x) HB.out.2.2
        have y0 : w4.cell? ⟨w0.heap.size + 1, 0, none⟩ = some (.int .i64 0) := blk_cell hb4 0
        have y1 : w4.cell? ⟨w0.heap.size + 1, 1, none⟩ = some (.slice none 0 0) := blk_cell hb4 1
        have f0 := blk_frozen hb4 0
        have f1 := blk_frozen hb4 1
        have H4 := Lib.hid (And.intro ((HB.out.1.trans H2.out.1).trans k4) (And.intro hb4 k4))
        clear x0 x1 k4 hb4 ho4
        go_wp2_with fail
        refine ret_pl (X := w0.heap.size + 1) rfl rfl (setCell_blk (i := 1) (setCell_blk (i := 0) H4.out.2.1 (.int .i64 x)) (.slice a ln n)) rfl ?_
        refine HRN.out _ _ _ HH.out (rheld_of HE.out.2 (kb_new (kb_new H4.out.1 (Nat.le_succ _) 0 _) (Nat.le_succ _) 1 _) ?_)
        have h9 := HO4.out.kb ((kb_set w4 (w0.heap.size + 1) 0 (.int .i64 x)).trans (kb_set _ (w0.heap.size + 1) 1 (.slice a ln n))) (fun g e1 e2 => by
          obtain ⟨cur, h1, -⟩ := own_block HO4.out e1
          rw [e2, H4.out.2.1] at h1
          simp only [Option.some.injEq, Obj.cells.injEq] at h1
          exact absurd h1.2.1 (by decide))
        exact own_base h9 (HB.out.1.trans H2.out.1).size
    · obtain rfl : i = N := by omega
      have dk : decide ((i : Int) < (i : Int)) = false := decide_eq_false (by omega)
      have HH : Hid (i = heldN hs) := Lib.hid (heldN_eq (by rw [HLEN.out]; omega) hst.out (fun h => by rw [HLEN.out] at h; omega)).symm
      clear hst
      have x0 := H2.out.1.cell (p := ⟨w0.heap.size, 0, none⟩) (fun x => x) HC.out.1
      have x1 := H2.out.1.cell (p := ⟨w0.heap.size, 1, none⟩) (fun x => x) HC.out.2
      go_wp2_with fail
      refine (CUT.out _ H2.out.1).mono ?_
      rintro e w4 ⟨v, rfl, ho4, k4⟩
      have HO4 := Lib.hid ho4
      obtain ⟨a, ln, n, rfl⟩ : ∃ a ln n, v = .slice a ln n := by
        obtain ⟨a, n, e⟩ := own_lenP ho4
        exact ⟨a, _, n, e⟩
      have hb4 := (H2.out.1.trans k4).heap (fun x => x) HB.out.2.2
      have y0 : w4.cell? ⟨w0.heap.size + 1, 0, none⟩ = some (.int .i64 0) := blk_cell hb4 0
      have y1 : w4.cell? ⟨w0.heap.size + 1, 1, none⟩ = some (.slice none 0 0) := blk_cell hb4 1
      have f0 := blk_frozen hb4 0
      have f1 := blk_frozen hb4 1
      have H4 := Lib.hid (And.intro ((HB.out.1.trans H2.out.1).trans k4) (And.intro hb4 k4))
      clear x0 x1 k4 hb4 ho4
      go_wp2_with fail
      refine ret_pl (X := w0.heap.size + 1) rfl rfl (setCell_blk (i := 1) (setCell_blk (i := 0) H4.out.2.1 (.int .i64 x)) (.slice a ln n)) rfl ?_
      refine HRN.out _ _ _ HH.out (rheld_of HE.out.2 (kb_new (kb_new H4.out.1 (Nat.le_succ _) 0 _) (Nat.le_succ _) 1 _) ?_)
      have h9 := HO4.out.kb ((kb_set w4 (w0.heap.size + 1) 0 (.int .i64 x)).trans (kb_set _ (w0.heap.size + 1) 1 (.slice a ln n))) (fun g e1 e2 => by
        obtain ⟨cur, h1, -⟩ := own_block HO4.out e1
        rw [e2, H4.out.2.1] at h1
        simp only [Option.some.injEq, Obj.cells.injEq] at h1
        exact absurd h1.2.1 (by decide))
      exact own_base h9 (HB.out.1.trans H2.out.1).size
end Go.Proofs.YtpigppghcghpbaaGreatDoor

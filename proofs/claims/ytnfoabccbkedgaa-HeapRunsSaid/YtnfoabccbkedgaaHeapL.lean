/- The walk of the law HeapBack. -/
import Derived.Test.YtnfoabccbkedgaaHeapK
namespace Go.Proofs.Ytnfoabccbkedgaa
open Go.RowKit

def addrs (L : List (Nat × Nat)) : List Value := L.map fun p => .int .i64 (addr p)
theorem addrs_snoc (L : List (Nat × Nat)) (p : Nat × Nat) : addrs (L ++ [p]) = addrs L ++ [.int .i64 (addr p)] := by simp [addrs]
theorem addrs_get {L : List (Nat × Nat)} {k : Nat} (h : k < L.length) : (addrs L)[k]? = some (.int .i64 (addr (L[k]))) := by simp [addrs, h]

def lawPost (w : World) (e : Ending) (w' : World) : Prop := e = .returned (.bool true) ∧ KB (fun _ => False) w w'

theorem back_long_any (a1 a2 : Option Addr) (n1 n2 c1 c2 : Nat) (t : Int) (w : World) (h : 300 < n1 ∨ 300 < n2) :
    Calls Try.prog 5 #[.slice a1 n1 c1, .slice a2 n2 c2, .int .i64 t] w (lawPost w) := by
  rcases Nat.lt_or_ge 300 n1 with h1 | h1
  · have d1 : decide ((300 : Int) < (n1 : Int)) = true := by simp; omega
    go_enter Try.func5, Try.ntmps5
    go_wp2_with fail
    refine (awake_any _).mono ?_
    rintro e w' ⟨rfl, hk⟩
    go_wp2
    go_ret
    exact ⟨rfl, hk⟩
  · have d1 : decide ((300 : Int) < (n1 : Int)) = false := by simp; omega
    have d2 : decide ((300 : Int) < (n2 : Int)) = true := by simp; omega
    go_enter Try.func5, Try.ntmps5
    go_wp2_with fail
    refine (awake_any _).mono ?_
    rintro e w' ⟨rfl, hk⟩
    go_wp2
    go_ret
    exact ⟨rfl, hk⟩

/-- The element that is given back at a step. -/
def turned (b : Bool) (L : List (Nat × Nat)) : List (Nat × Nat) := if b then L.reverse else L
theorem turned_len (b : Bool) (L : List (Nat × Nat)) : (turned b L).length = L.length := by unfold turned; split <;> simp
theorem turned_perm (b : Bool) (L : List (Nat × Nat)) : L.Perm (turned b L) := by unfold turned; split; exact L.reverse_perm.symm; exact List.Perm.refl _

theorem turned_at (tb : Bool) (L : List (Nat × Nat)) (j : Nat) (hj : j < L.length) {m : Nat} (hm : m = L.length) :
    ∃ p idx, (turned tb L).drop j = p :: (turned tb L).drop (j + 1) ∧ (addrs L)[idx]? = some (.int .i64 (addr p)) ∧ (idx = if tb = true then m - 1 - j else j) ∧ idx < m := by
  have hd : (turned tb L).drop j = (turned tb L)[j]'(by rw [turned_len]; exact hj) :: (turned tb L).drop (j + 1) := List.drop_eq_getElem_cons _
  cases tb with
  | false => exact ⟨_, j, hd, addrs_get hj, by simp, by omega⟩
  | true =>
    refine ⟨_, m - 1 - j, hd, ?_, by simp, by omega⟩
    subst hm
    rw [addrs_get (by omega)]
    simp only [turned, if_true, List.getElem_reverse]
set_option maxRecDepth 100000 in
set_option maxHeartbeats 4000000 in
theorem back_short (a1 a2 : Option Addr) (xs1 xs2 : List Int) (c1 c2 : Nat) (t : Int) (w : World) (h1 : xs1.length ≤ 300) (h2 : xs2.length ≤ 300)
    (hx1 : IntsAt w a1 xs1) (hx2 : IntsAt w a2 xs2) (hr1 : ∀ x ∈ xs1, -9223372036854775808 ≤ x ∧ x < 9223372036854775808) (hr2 : ∀ x ∈ xs2, -9223372036854775808 ≤ x ∧ x < 9223372036854775808) :
    Calls Try.prog 5 #[.slice a1 xs1.length c1, .slice a2 xs2.length c2, .int .i64 t] w (lawPost w) := by
  have d1 : decide ((300 : Int) < (xs1.length : Int)) = false := by simp; omega
  have d2 : decide ((300 : Int) < (xs2.length : Int)) = false := by simp; omega
  obtain ⟨b, hb⟩ : ∃ b, b = w.heap.size := ⟨_, rfl⟩
  have hlt : ∀ (a : Option Addr) (xs : List Int), IntsAt w a xs → ∀ bl off k, k < xs.length → a = some ⟨bl, off, none⟩ → bl < w.heap.size := by
    intro a xs hx bl off k hk ha
    obtain ⟨b', o', ha', hc⟩ := hx k hk
    rw [ha] at ha'
    simp only [Option.some.injEq, Addr.mk.injEq] at ha'
    obtain ⟨rfl, rfl, _⟩ := ha'
    exact World.block_lt_of_cell? w _ hc
  have Hnew := Lib.hid (new_any w)
  rw [← hb] at Hnew
  have HF : Hid (∀ j, j < w.heap.size → j = b → False) := Lib.hid (fun j h1 h2 => by omega)
  have hab1 : ∀ bl off k, k < xs1.length → a1 = some ⟨bl, off, none⟩ → ¬ bl = b := fun bl off k hk ha => by have := hlt a1 xs1 hx1 bl off k hk ha; omega
  have Hplay := Lib.hid (fun (w1 : World) (i1 : IH w1 b HS.new) (k1 : KB (fun _ => False) w w1) => play_any b HS.new a1 xs1 c1 w1 i1 good_new h1
    (hx1.kb k1 (fun _ _ _ x => x)) hr1 hab1)
  have Hlt2 := Lib.hid (hlt a2 xs2 hx2)
  have Hx2 := Lib.hid hx2
  have Hr2 := Lib.hid hr2
  obtain ⟨n1, hn1⟩ : ∃ n, n = xs1.length := ⟨_, rfl⟩
  obtain ⟨n2, hn2⟩ : ∃ n, n = xs2.length := ⟨_, rfl⟩
  rw [← hn1] at d1 Hplay ⊢
  rw [← hn2] at d2 h2 ⊢
  have Hn2 := Lib.hid hn2
  have Hbs := Lib.hid hb
  have hn2i : (n2 : Int) ≤ 300 := by omega
  clear hx1 hx2 hr1 hr2 hlt hab1 h1 hn1 hn2 hb
  go_enter Try.func5, Try.ntmps5
  go_wp2_with fail
  refine Hnew.out.mono ?_
  rintro e w1 ⟨rfl, i1, k1⟩
  have I := Lib.hid i1
  have K := Lib.hid k1
  clear i1 k1
  go_wp2_with fail
  refine (Hplay.out _ I.out K.out).mono ?_
  rintro e w2 ⟨pv, s0, rfl, i2, _, k2⟩
  replace K := Lib.hid (K.out.seq k2 HF.out)
  replace I := Lib.hid i2
  clear i2 k2 Hplay
  go_wp2_with fail
  refine (copy_any b s0 _ I.out).mono ?_
  obtain ⟨c, hc⟩ : ∃ c, c = w2.heap.size := ⟨_, rfl⟩
  rw [← hc]
  have hbc : b < c := by have := heap_lt I.out.1; omega
  rintro e w3 ⟨rfl, ic, k2⟩
  have hsz2 := K.out.size
  have Hcw : Hid (∀ j, j < w.heap.size → j = c → False) := Lib.hid (fun j h1 h2 => by omega)
  replace K := Lib.hid (K.out.trans k2)
  replace I := Lib.hid (I.out.kb k2 (fun x => x))
  have IC := Lib.hid ic
  clear k2 ic hc hsz2
  go_wp2_with fail
  refine (same_any b c s0 s0 _ I.out IC.out).mono ?_
  rw [same_self]
  rintro e w4 ⟨rfl, n4, rfl⟩
  replace K := Lib.hid (K.out.drewN n4)
  replace I := Lib.hid (I.out.kb ((KB.refl (fun _ => False) _).drewN n4) (fun x => x))
  replace IC := Lib.hid (IC.out.kb ((KB.refl (fun _ => False) _).drewN n4) (fun x => x))
  generalize World.drewN _ n4 = w4 at *
  go_wp2_with fail
  obtain ⟨bs, hbs⟩ : ∃ bs, bs = w4.heap.size := ⟨_, rfl⟩
  have hcb : c < bs := by have := heap_lt IC.out.1; omega
  have hwbs : w.heap.size ≤ bs := by have := K.out.size; omega
  go_loopw [9, 10] (fun v i wr => ∃ (k : Nat) (L : List (Nat × Nat)) (s : HS), k ≤ n2 ∧ L.length ≤ k ∧ i = .int .i64 k ∧ wr.ownsRow bs 3 1 v L.length (addrs L) ∧ IH wr b s ∧ IH wr c s0 ∧ Hid (Rel s0 s L) ∧ KB (fun _ => False) w wr ∧ bs ≤ wr.heap.size) (fun _ i _ => n2 - (intOf i).toNat)
  case atStart => exact ⟨0, [], s0, by omega, by simp, rfl, World.ownsRow_nil _ _ _ _, I.out, IC.out, Rel.nil s0, K.out, by omega⟩
  case round =>
    obtain ⟨k, L, s, hk, hL, rfl, hown, hI, hC, hR, hK, hsz⟩ := hrel
    clear I IC K
    by_cases hlt : k < n2
    · obtain ⟨bl, off, ha, hcell⟩ := Hx2.out k (by rw [← Hn2.out]; exact hlt)
      have hc2 := hK.cell (fun x => x) hcell
      obtain ⟨x, hxe⟩ : ∃ x, x = xs2.getD k 0 := ⟨_, rfl⟩
      rw [← hxe] at hc2
      have Hown := Lib.hid hown
      have HI := Lib.hid hI
      have HC := Lib.hid hC
      have HK := Lib.hid hK
      have hbnd : (k : Int) < n2 := by omega
      clear hown hI hC hK hxe hcell
      subst ha
      rcases take_cases s x with ⟨ht, hxr⟩ | ⟨cc, rfl, hcc, hfull, ht⟩ | ⟨cc, i, rfl, hcc, hfull, hff, ht⟩
      · have Ht := Lib.hid ht
        clear ht
        go_wp2_with fail
        refine (hcount_arg b x hxr _ HI.out.c0).mono ?_
        rintro e wa ⟨rfl, ka⟩
        have hc3 := ka.cell (fun x => x) hc2
        go_wp2_with fail
        refine (take_any b s x _ (HI.out.kb ka (fun x => x))).mono ?_
        rw [Ht.out]
        rintro e wb ⟨rfl, ib, kb⟩
        have hIb := ib
        have hCb := (HC.out.kb ka (fun x => x)).kb kb (by omega)
        have hownb := own_kb (own_kb Hown.out ka (fun j hj x => x)) kb (fun j hj e => by have := (Hown.out.lt j hj).1; omega)
        have hKb := HK.out.trans ka |>.seq kb HF.out
        have hszb := Nat.le_trans hsz (Nat.le_trans ka.size kb.size)
        clear ka kb ib hc2 hc3
        go_wp2
        go_roundw
        case rel => exact ⟨k + 1, L, s, by omega, by omega, by go_num, hownb, hIb, hCb, hR, hKb, hszb⟩
        case measure => simp [intOf]; omega
      · have Ht := Lib.hid ht
        have Hfull := Lib.hid hfull
        clear ht hfull
        go_wp2_with fail
        refine (hcount_yes b s cc hcc _ HI.out).mono ?_
        rw [Hfull.out]
        rintro e wa ⟨rfl, ka⟩
        have hc3 := ka.cell (fun x => x) hc2
        go_wp2_with fail
        refine (take_any b s cc _ (HI.out.kb ka (fun x => x))).mono ?_
        rw [Ht.out]
        rintro e wb ⟨rfl, ib, kb⟩
        have hIb := ib
        have hCb := (HC.out.kb ka (fun x => x)).kb kb (by omega)
        have hownb := own_kb (own_kb Hown.out ka (fun j hj x => x)) kb (fun j hj e => by have := (Hown.out.lt j hj).1; omega)
        have hKb := HK.out.trans ka |>.seq kb HF.out
        have hszb := Nat.le_trans hsz (Nat.le_trans ka.size kb.size)
        clear ka kb ib hc2 hc3
        go_wp2
        go_roundw
        case rel => exact ⟨k + 1, L, s, by omega, by omega, by go_num, hownb, hIb, hCb, hR, hKb, hszb⟩
        case measure => simp [intOf]; omega
      · have Ht := Lib.hid ht
        obtain ⟨cv, hcv⟩ : ∃ cv, cv = cnt (s.T cc) := ⟨_, rfl⟩
        have hne : ((cv : Int) == 12) = false := by rw [← hcv] at hfull; simp; omega
        have hcount := hcount_yes b s cc hcc
        rw [← hcv] at hcount
        have Hcount := Lib.hid hcount
        obtain ⟨ad, had⟩ : ∃ ad, ad = addr (cc, i) := ⟨_, rfl⟩
        rw [← had] at Ht
        have hR2 : Hid (Rel s0 (s.mark cc i) (L ++ [(cc, i)])) := Lib.hid (hR.out.take hcc hff)
        have hLs : Hid (addrs (L ++ [(cc, i)]) = addrs L ++ [.int .i64 ad] ∧ (L ++ [(cc, i)]).length = L.length + 1) := Lib.hid ⟨by rw [addrs_snoc, had], by simp⟩
        clear ht hfull hcv hcount had hff
        go_wp2_with fail
        refine (Hcount.out _ HI.out).mono ?_
        rintro e wa ⟨rfl, ka⟩
        have hc3 := ka.cell (fun x => x) hc2
        go_wp2_with fail
        refine (take_any b s cc _ (HI.out.kb ka (fun x => x))).mono ?_
        rw [Ht.out]
        rintro e wb ⟨rfl, ib, kb⟩
        have hIb := Lib.hid ib
        have hCb := Lib.hid ((HC.out.kb ka (fun x => x)).kb kb (by omega))
        have hownb := Lib.hid (own_kb (own_kb Hown.out ka (fun j hj x => x)) kb (fun j hj e => by have := (Hown.out.lt j hj).1; omega))
        have hKb := Lib.hid (HK.out.trans ka |>.seq kb HF.out)
        have hszb := Nat.le_trans hsz (Nat.le_trans ka.size kb.size)
        clear ka kb ib hc2 hc3
        go_wp2_with (at_builtin; refine Stopped.out ?_)
        refine ⟨?_⟩
        refine app1 22 3 bs (.int .i64 ad) Try.infoInt Try.underlying22 rfl (hownb.out.alloc _) rfl rfl rfl rfl (by go_simp) rfl (by unfold maxLen; omega) (by omega) (by simp; omega) ?_
        intro v' w' hown' hgr
        have kg := KB.grown (S := fun j => bs ≤ j ∧ j < wb.heap.size) ((KB.refl _ wb).alloc _) hgr (fun j hj hjl => ⟨(hownb.out.lt j hj).1, hjl⟩)
        have hk' : KB (fun _ => False) w w' := hKb.out.seq kg (fun j hj h => by omega)
        have hi' := hIb.out.kb kg (fun h => by omega)
        have hc' := hCb.out.kb kg (fun h => by omega)
        have hsz' := Nat.le_trans hszb kg.size
        rw [← hLs.out.1, ← hLs.out.2] at hown'
        clear hgr kg
        go_wp2
        go_roundw
        case rel => exact ⟨k + 1, L ++ [(cc, i)], _, by omega, by have := hLs.out.2; omega, by go_num, hown', hi', hc', hR2, hk', hsz'⟩
        case measure => simp [intOf]; omega
    · obtain rfl : k = n2 := by omega
      have hsame := same_any b c s s0 wr hI hC
      rw [hR.out.same] at hsame
      obtain ⟨m, hm⟩ : ∃ m, m = L.length := ⟨_, rfl⟩
      have hem : ((m : Int) == 0) = L.isEmpty := by rw [hm]; cases L with | nil => rfl | cons p L => rw [List.isEmpty_cons]; simp; omega
      rw [← hm] at hown hL
      obtain ⟨av, cap, rfl, _, _, hcells, _⟩ := own_shape hown
      have Hown := Lib.hid hown
      have Hcells := Lib.hid hcells
      have HI := Lib.hid hI
      have HC := Lib.hid hC
      have HK := Lib.hid hK
      have Hsame := Lib.hid hsame
      have Hm := Lib.hid hm
      have hm300 : (m : Int) ≤ 300 := by omega
      clear hown hcells hI hC hK hsame hm hlt
      obtain ⟨TB, htb⟩ : ∃ tb, (bits BinOp.and IntKind.i64 t 1 == 1) = tb := ⟨_, rfl⟩
      cases TB
      all_goals
        have Hem := Lib.hid hem
        clear hem
        cases hqe : L.isEmpty
        all_goals
          have hem : ((m : Int) == 0) = _ := Hem.out.trans hqe
          have hqq := Lib.hid hqe
          clear hqe
          go_wp2_with fail
          refine Hsame.out.mono ?_
          rw [hqq.out]
          rintro e w5 ⟨rfl, n5, rfl⟩
          have K5 := Lib.hid (HK.out.drewN n5)
          have I5 := Lib.hid (HI.out.kb ((KB.refl (fun _ => False) _).drewN n5) (fun x => x))
          have C5 := Lib.hid (HC.out.kb ((KB.refl (fun _ => False) _).drewN n5) (fun x => x))
          have O5 := Lib.hid (own_drewN Hown.out n5)
          have hbs5 : Hid (bs ≤ (World.drewN wr n5).heap.size) := Lib.hid ‹_›
          generalize World.drewN _ n5 = w5 at *
          go_wp2_with fail
          go_loopw [15, 16] (fun i _ wr => ∃ (j : Nat) (s' : HS), j ≤ m ∧ i = .int .i64 j ∧ IH wr b s' ∧ IH wr c s0 ∧ Hid (Rel s0 s' ((turned (bits BinOp.and IntKind.i64 t 1 == 1) L).drop j)) ∧ wr.ownsRow bs 3 1 (.slice av m cap) m (addrs L) ∧ KB (fun _ => False) w wr) (fun i _ _ => m - (intOf i).toNat)
          case atStart => exact ⟨0, s, by omega, rfl, I5.out, C5.out, Lib.hid (hR.out.perm (turned_perm _ L)), O5.out, K5.out⟩
          case round =>
            obtain ⟨j, s', hj, rfl, hI, hC, hR', hown, hK⟩ := hrel
            have HI := Lib.hid hI
            have HC := Lib.hid hC
            have HK := Lib.hid hK
            have Hown := Lib.hid hown
            clear hI hC hK hown
            by_cases hlt : j < m
            · obtain ⟨p, idx, hdr, hel, hidx, hil⟩ : ∃ p idx, (turned (bits BinOp.and IntKind.i64 t 1 == 1) L).drop j = p :: (turned (bits BinOp.and IntKind.i64 t 1 == 1) L).drop (j + 1) ∧ (addrs L)[idx]? = some (.int .i64 (addr p)) ∧
                  (idx = if (bits BinOp.and IntKind.i64 t 1 == 1) = true then m - 1 - j else j) ∧ idx < m := turned_at _ L j (by rw [← Hm.out]; exact hlt) Hm.out
              obtain ⟨g, hav, hbg, _⟩ := Hcells.out idx (by omega)
              subst hav
              have hcell := Hown.out.cellAt idx (by omega)
              rw [hel] at hcell
              have hR2 := hR'.out
              rw [hdr] at hR2
              obtain ⟨g1, g2, g3⟩ := hR2.give
              obtain ⟨ad, had⟩ : ∃ ad, ad = addr p := ⟨_, rfl⟩
              rw [← had] at hcell g1 g2
              have G1 := Lib.hid g1
              have G2 := Lib.hid g2
              have G3 := Lib.hid g3
              rw [htb] at hidx
              simp only [Bool.false_eq_true, if_false, if_true] at hidx
              rw [hidx] at hcell
              clear g1 g2 g3 hR2 hdr hel had hidx
              have hjm : (j : Int) < m := by omega
              have hidx2 : (m : Int) - 1 - (j : Int) = ((m - 1 - j : Nat) : Int) := by omega
              go_wp2_with fail
              refine (give_any b s' ad _ HI.out).mono ?_
              rw [G1.out]
              rintro e wa ⟨rfl, ia, ka⟩
              have hcell2 : wa.cell? ⟨g, _, none⟩ = some (.int .i64 ad) := ka.cell (show ¬ g = b by omega) hcell
              go_wp2_with fail
              refine (give_any b _ ad _ ia).mono ?_
              rw [G2.out]
              rintro e wb ⟨rfl, ib, kb⟩
              have hC2 := (HC.out.kb ka (by omega)).kb kb (by omega)
              have hown2 := own_kb (own_kb Hown.out ka (fun q hq e => by have := (Hown.out.lt q hq).1; omega)) kb (fun q hq e => by have := (Hown.out.lt q hq).1; omega)
              have hK2 := (HK.out.seq ka HF.out).seq kb HF.out
              clear ka kb ia hcell hcell2 hidx2
              go_wp2
              go_roundw
              case rel => exact ⟨j + 1, _, by omega, by go_num, ib, hC2, G3, hown2, hK2⟩
              case measure => simp [intOf]; omega
            · obtain rfl : j = m := by omega
              have hfin : Rel s0 s' [] := by
                have := hR'.out
                rwa [List.drop_of_length_le (by rw [turned_len]; have := Hm.out; omega)] at this
              have hsm : s'.same s0 = true := hfin.same
              have Hs1 := Lib.hid hsm
              have Hs2 := Lib.hid (same_comm hsm)
              clear hfin hsm
              go_wp2_with fail
              refine (same_any b c s' s0 _ HI.out HC.out).mono ?_
              rw [Hs1.out]
              rintro e w6 ⟨rfl, n6, rfl⟩
              have K6 := Lib.hid (HK.out.drewN n6)
              have I6 := Lib.hid (HI.out.kb ((KB.refl (fun _ => False) _).drewN n6) (fun x => x))
              have C6 := Lib.hid (HC.out.kb ((KB.refl (fun _ => False) _).drewN n6) (fun x => x))
              generalize World.drewN _ n6 = w6 at *
              go_wp2_with fail
              refine (same_any c b s0 s' _ C6.out I6.out).mono ?_
              rw [Hs2.out]
              rintro e w7 ⟨rfl, n7, rfl⟩
              have K7 := Lib.hid (K6.out.drewN n7)
              generalize World.drewN _ n7 = w7 at *
              go_wp2_with fail
              refine (awake_any _).mono ?_
              rintro e w8 ⟨rfl, k8⟩
              have K8 := Lib.hid (K7.out.trans k8)
              clear k8
              go_wp2
              go_ret
              exact ⟨rfl, K8.out⟩
end Go.Proofs.Ytnfoabccbkedgaa

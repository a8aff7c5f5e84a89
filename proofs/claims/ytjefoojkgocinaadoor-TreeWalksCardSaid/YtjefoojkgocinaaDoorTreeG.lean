/- tree.just. -/
import Derived.Test.YtjefoojkgocinaaDoorTreeF
namespace Go.Proofs.YtjefoojkgocinaaDoor
open Go.RowKit

/-- A slice of classes. -/
def ClsAt (w : World) (a : Option Addr) (cs : List Cls) : Prop :=
  ∀ k, k < cs.length → ∃ b off v, a = some ⟨b, off, none⟩ ∧ w.cell? ⟨b, off + k, none⟩ = some v ∧ ClsV w v (cs.getD k .ty)
theorem ClsAt.kb {w w' : World} {a : Option Addr} {cs : List Cls} (h : ClsAt w a cs) (hk : KB (fun _ => False) w w') : ClsAt w' a cs := by
  intro k hlt
  obtain ⟨b, off, v, ha, hc, hv⟩ := h k hlt
  exact ⟨b, off, v, ha, hk.cell (p := ⟨b, off + k, none⟩) (fun x => x) hc, hv.kb hk⟩
def justF (l : List Nat) (cs : List Cls) (k : Nat) : Bool := (cs.getD k .ty).ok (l.getD k 0)
def justB (l : List Nat) (cs : List Cls) : Bool := decide (l.length = cs.length) && (List.range cs.length).all (justF l cs)

set_option maxRecDepth 100000 in
set_option maxHeartbeats 4000000 in
theorem just_any (a a2 : Option Addr) (l : List Nat) (cs : List Cls) (cap cap2 : Nat) (w : World) (hl : l.length ≤ 9223372036854775807) (hl2 : cs.length ≤ 9223372036854775807) (ha : KindsAt w a l) (hc : ClsAt w a2 cs) :
    Calls Tryd.prog 68 #[.slice a l.length cap, .slice a2 cs.length cap2] w fun e w' => e = .returned (.bool (justB l cs)) ∧ w = w' := by
  have Hr : Hid (justB l cs = (decide (l.length = cs.length) && (List.range cs.length).all (justF l cs))) := Lib.hid rfl
  obtain ⟨r, hr⟩ : ∃ r, r = justB l cs := ⟨_, rfl⟩
  rw [← hr] at Hr ⊢
  have Ha := Lib.hid ha
  have Hc := Lib.hid hc
  clear hr ha hc
  obtain ⟨n, hn⟩ : ∃ n, n = l.length := ⟨_, rfl⟩
  obtain ⟨m, hm⟩ : ∃ m, m = cs.length := ⟨_, rfl⟩
  rw [← hn, ← hm]
  rw [← hn] at hl
  rw [← hm] at hl2
  have Hn := Lib.hid hn
  have Hm := Lib.hid hm
  clear hn hm
  by_cases hnm : n = m
  · have hr : Hid (r = (List.range cs.length).all (justF l cs)) := Lib.hid (by rw [Hr.out, ← Hn.out, ← Hm.out]; simp [hnm])
    have t0 : ((n : Int) != (m : Int)) = false := by simp [hnm]
    have Hnm := Lib.hid hnm
    clear hnm
    go_enter Tryd.func68, Tryd.ntmps68
    go_wp2_with fail
    go_loop [14] (fun i => ∃ k : Nat, k ≤ m ∧ i = .int .i64 k ∧ Hid (∀ j, j < k → justF l cs j = true)) (fun i => m - (intOf i).toNat)
    case atStart => exact ⟨0, by omega, rfl, fun j hj => by omega⟩
    case round =>
      obtain ⟨k, hk, rfl, hj⟩ := hrel
      by_cases hlt : k < m
      · obtain ⟨b, off, ha1, hc1⟩ := Ha.out k (by rw [← Hn.out, Hnm.out]; exact hlt)
        obtain ⟨b2, off2, v, ha2, hc2, hv⟩ := Hc.out k (by rw [← Hm.out]; exact hlt)
        subst ha1
        subst ha2
        have hkn : k < n := by have := Hnm.out; omega
        have hf : Hid (justF l cs k = (cs.getD k .ty).ok (l.getD k 0)) := Lib.hid rfl
        have hno : Hid (justF l cs k = false → r = false) := Lib.hid fun h => by
          rw [hr.out, List.all_eq_false]; exact ⟨k, by rw [List.mem_range, ← Hm.out]; exact hlt, by simp [h]⟩
        have hyes : Hid (justF l cs k = true → ∀ j, j < k + 1 → justF l cs j = true) := Lib.hid fun h j hj2 => by
          by_cases e : j = k
          · subst e; exact h
          · exact hj.out j (by omega)
        clear hj
        generalize justF l cs k = q at hf hno hyes
        generalize l.getD k 0 = y at hc1 hf
        generalize cs.getD k .ty = cl at hv hf
        cases cl with
        | ty =>
          have hv' : v = .func (.func 69) #[] #[] := hv
          subst hv'
          have Hcall := Lib.hid (isType_any y w)
          have hq : q = isTypeB y := hf.out
          clear hv
          rw [← hq] at Hcall
          clear hq hf
          cases q
          · have hr := Lib.hid (hno.out rfl)
            go_wp2_with fail
            refine Hcall.out.mono ?_
            rintro e w' ⟨rfl, rfl⟩
            go_wp2
            go_ret
            exact ⟨ret_eq (by rw [hr.out]; rfl), rfl⟩
          · have hj' := Lib.hid (hyes.out rfl)
            go_wp2_with fail
            refine Hcall.out.mono ?_
            rintro e w' ⟨rfl, rfl⟩
            go_wp2
            go_round
            case rel => exact ⟨k + 1, by omega, by go_num, hj'⟩
            case measure => simp [intOf]; omega
        | ex =>
          have hv' : v = .func (.func 70) #[] #[] := hv
          subst hv'
          have Hcall := Lib.hid (isExpr_any y w)
          have hq : q = isExprB y := hf.out
          clear hv
          rw [← hq] at Hcall
          clear hq hf
          cases q
          · have hr := Lib.hid (hno.out rfl)
            go_wp2_with fail
            refine Hcall.out.mono ?_
            rintro e w' ⟨rfl, rfl⟩
            go_wp2
            go_ret
            exact ⟨ret_eq (by rw [hr.out]; rfl), rfl⟩
          · have hj' := Lib.hid (hyes.out rfl)
            go_wp2_with fail
            refine Hcall.out.mono ?_
            rintro e w' ⟨rfl, rfl⟩
            go_wp2
            go_round
            case rel => exact ⟨k + 1, by omega, by go_num, hj'⟩
            case measure => simp [intOf]; omega
        | st =>
          have hv' : v = .func (.func 67) #[] #[] := hv
          subst hv'
          have Hcall := Lib.hid (isStmt_any y w)
          have hq : q = isStmtB y := hf.out
          clear hv
          rw [← hq] at Hcall
          clear hq hf
          cases q
          · have hr := Lib.hid (hno.out rfl)
            go_wp2_with fail
            refine Hcall.out.mono ?_
            rintro e w' ⟨rfl, rfl⟩
            go_wp2
            go_ret
            exact ⟨ret_eq (by rw [hr.out]; rfl), rfl⟩
          · have hj' := Lib.hid (hyes.out rfl)
            go_wp2_with fail
            refine Hcall.out.mono ?_
            rintro e w' ⟨rfl, rfl⟩
            go_wp2
            go_round
            case rel => exact ⟨k + 1, by omega, by go_num, hj'⟩
            case measure => simp [intOf]; omega
        | kd kl =>
          obtain ⟨kb, ka, kc, rfl, hk2, hk3, hk4⟩ := hv
          have Hcall := Lib.hid (kind1_any kb ka kl kc y w hk2 hk3 (by omega))
          have hq : q = (kl.any fun z => z == y) := hf.out
          clear hk2 hk3 hk4
          rw [← hq] at Hcall
          clear hq hf
          cases q
          · have hr := Lib.hid (hno.out rfl)
            go_wp2_with fail
            refine Hcall.out.mono ?_
            rintro e w' ⟨rfl, rfl⟩
            go_wp2
            go_ret
            exact ⟨ret_eq (by rw [hr.out]; rfl), rfl⟩
          · have hj' := Lib.hid (hyes.out rfl)
            go_wp2_with fail
            refine Hcall.out.mono ?_
            rintro e w' ⟨rfl, rfl⟩
            go_wp2
            go_round
            case rel => exact ⟨k + 1, by omega, by go_num, hj'⟩
            case measure => simp [intOf]; omega
      · obtain rfl : k = m := by omega
        have hr2 : Hid (r = true) := Lib.hid (by rw [hr.out, List.all_eq_true]; intro j hj2; exact hj.out j (by rw [Hm.out]; simpa using hj2))
        go_wp2
        go_ret
        exact ⟨ret_eq (by rw [hr2.out]; rfl), rfl⟩
  · have hr : Hid (r = false) := Lib.hid (by rw [Hr.out, ← Hn.out, ← Hm.out]; simp [hnm])
    have t0 : ((n : Int) != (m : Int)) = true := by simp; omega
    clear hnm
    go_enter Tryd.func68, Tryd.ntmps68
    go_wp2
    go_ret
    exact ⟨ret_eq (by rw [hr.out]; rfl), rfl⟩
end Go.Proofs.YtjefoojkgocinaaDoor

/- The iterator that tree.Walk answers: each node's number and how many stand above it, one behind the other. -/
import Derived.RangeFuncNested
import Derived.RangeFuncBound
import Derived.RangeFuncCalls
import Derived.RangeFuncLeaves
import Derived.Shelf.Abstract
import Derived.Shelf.RegionOpen
import Derived.WalkKit
import Derived.OwnWalkIn
import Derived.TacticsInMore
import Derived.LoopNIn
import Derived.LoopIn
import Derived.Test.YtjefoojkgocinaaDoorTrSame
import Derived.Test.YtjefoojkgocinaaDoorRegionIn
namespace Go.Proofs.YtjefoojkgocinaaDoor
open Go.RowKit Go.Shelf
attribute [local go_sem] Oper.semAt_some

/-- What a round keeps: cells outside of S. -/
structure KC (S : Nat → Prop) (W W' : World) : Prop where
  size : W.heap.size ≤ W'.heap.size
  same : ∀ k o, W.heap[k]? = some o → o.isCells = true → ¬ S k → W'.heap[k]? = some o
theorem KC.trans {S : Nat → Prop} {a b c : World} (h : KC S a b) (k : KC S b c) : KC S a c :=
  ⟨Nat.le_trans h.size k.size, fun i o hi ho hs => k.same i o (h.same i o hi ho hs) ho hs⟩
theorem KC.putObj {S : Nat → Prop} (W : World) (l : Nat) (o o' : Obj) (h : W.heap[l]? = some o) (ho : o.isCells = false) : KC S W (W.putObj l o') := by
  refine ⟨by simp, fun k x hk hx _ => ?_⟩
  have hne : k ≠ l := by rintro rfl; rw [h] at hk; cases hk; rw [ho] at hx; cases hx
  rw [World.putObj_heap_other hne]; exact hk
theorem KC.own {S : Nat → Prop} {W W' : World} (h : KC S W W') {B n z : Nat} {e : TypeId} {v : Value} {xs : List Value} (ho : W.ownsRow B e z v n xs) (hS : ∀ g, v.ownBlock = some g → ¬ S g) : W'.ownsRow B e z v n xs := by
  obtain ⟨h1, h2⟩ := ho
  refine ⟨h1, ?_⟩
  rcases h2 with h2 | ⟨g, cap, cur, hv, hb, hh, r⟩
  · exact Or.inl h2
  · exact Or.inr ⟨g, cap, cur, hv, hb, h.same g _ hh rfl (hS g (by rw [hv]; rfl)), r⟩
/-- Each number with what stands at it. -/
def walkL (d : List Nat) : List (Nat × Nat) := (List.range d.length).map fun i => (i, d.getD i 0)
/-- A small number. -/
def lo (n : Nat) : Nat := n % 100000
theorem lo_lt (n : Nat) : lo n < 100000 := Nat.mod_lt _ (by decide)
theorem lo_eq {n : Nat} (h : n < 100000) : lo n = n := Nat.mod_eq_of_lt h
/-- As words (all that come are small). -/
def encW (p : Nat × Nat) : Array Value := #[.int .i64 (lo p.1 : Nat), .int .i64 (lo p.2 : Nat)]
theorem walkL_len (d : List Nat) : (walkL d).length = d.length := by simp [walkL]
theorem walkL_take {d : List Nat} {k : Nat} (h : k < d.length) : (walkL d).take (k + 1) = (walkL d).take k ++ [(k, d.getD k 0)] := by
  rw [List.take_succ_eq_append_getElem (by rw [walkL_len]; exact h)]
  simp [walkL]

set_option maxRecDepth 100000 in
set_option maxHeartbeats 4000000 in
theorem walk1_stops (F : Fence) (n : Nat) (hn : 3 ≤ n) (hF : ∀ f, F.fn f) (hro : F.round = none) (b B : Nat) (v : Value) (d : List Nat) (hdl : d.length ≤ 20000) (hdx : ∀ i, d.getD i 0 < 100000) (w : World) (S : Nat → Prop)
    (hSr : ∀ g, v.ownBlock = some g → ¬ S g) (hb : w.cell? ⟨b, 0, none⟩ = some v) (hrow : w.ownsRow B 3 1 v d.length (nats d)) :
    SeqStopsK F n Tryd.prog 50 #[.pointer (some ⟨b, 0, none⟩)] encW (KC S) (fun xs => xs = walkL d) (fun pre => pre <+: walkL d) d.length w := fun l J Jx W hW hJ hJx hY h0 => by
  have hbW : W.cell? ⟨b, 0, none⟩ = some v := by rw [World.cell?_of_block (hW.block b (heap_ltc hb))]; exact hb
  have hrW : W.ownsRow B 3 1 v d.length (nats d) := by
    obtain ⟨h1, h2⟩ := hrow
    refine ⟨h1, ?_⟩
    rcases h2 with h2 | ⟨g, cap, cur, hv, hb, hh, r⟩
    · exact Or.inl h2
    · exact Or.inr ⟨g, cap, cur, hv, hb, by rw [hW.block g (heap_lt hh)]; exact hh, r⟩
  obtain ⟨va, vc, rfl, hvc1, hvc2, -⟩ := own_shape hrW
  have bt : W.cell? ⟨b, 0, none⟩ = some (.slice va d.length vc) := hbW
  have HY := Lib.hid hY
  have H0 := Lib.hid (And.intro h0 hrW)
  have HS := Lib.hid hSr
  clear hY h0 hJ hJx hW hb hrow hbW hrW hSr
  obtain ⟨N, hN⟩ : ∃ N, N = d.length := ⟨_, rfl⟩
  rw [← hN] at bt hdl hvc1 H0 HS
  have HN := Lib.hid hN
  clear hN
  refine callsIn_of_wp Tryd.func50 rfl (hF _) ?_ hro
  simp only [Tryd.ntmps50, List.size_toArray, List.length_cons, List.length_nil, Nat.reduceAdd, Nat.reduceSub, Array.replicate_succ, Array.replicate_zero, List.push_toArray, List.append_toArray, List.nil_append, List.cons_append]
  gi_wp2
  clear bt
  gi_loopw [7] (fun kv wr => ∃ k : Nat, k ≤ N ∧ kv = .int .i64 k ∧ J ((walkL d).take k) wr ∧ wr.ownsRow B 3 1 (.slice va N vc) N (nats d)) (fun kv _ => N - (intOf kv).toNat)
  case atStart => exact ⟨0, by omega, rfl, by rw [List.take_zero]; exact H0.out.1, H0.out.2⟩
  case round =>
    obtain ⟨k, hk, rfl, hJk, hrow⟩ := hrel
    by_cases hlt : k < N
    · have hltd : k < d.length := by rw [← HN.out]; exact hlt
      obtain ⟨g, cap, e1, -, hc, -⟩ := own_set hrow (i := k) hlt
      rw [nats_get hltd] at hc
      simp only [Value.slice.injEq, true_and] at e1
      obtain ⟨rfl, rfl⟩ := e1
      have htk := Lib.hid (walkL_take hltd)
      have hpl : ((walkL d).take k).length < d.length := by rw [List.length_take, walkL_len]; omega
      have hy0 := HY.out ((walkL d).take k) (k, d.getD k 0) wr hJk hpl
      simp only [encW, lo_eq (show k < 100000 by omega), lo_eq (hdx k)] at hy0
      have HY1 := Lib.hid hy0
      have HR := Lib.hid hrow
      have hpre : Hid ((walkL d).take (k + 1) <+: walkL d) := Lib.hid (List.take_prefix _ _)
      generalize d.getD k 0 = x at hc HY1 htk
      clear hrow hJk hy0 hpl
      obtain ⟨fn, tm, asg, bd, hy, hR⟩ := HY1.out
      gi_wp2
      refine ⟨fun _ => by omega, hR.mono ?_⟩
      rintro e W3 (⟨rfl, hJ3, hk3⟩ | ⟨rfl, hJx3⟩)
      · have H3 := Lib.hid (And.intro hJ3 (hk3.own HR.out HS.out))
        clear hJ3 hk3
        gi_wp2
        go_roundw
        case rel => exact ⟨k + 1, by omega, by go_num, by rw [htk.out]; exact H3.out.1, H3.out.2⟩
        case measure => simp [intOf]; omega
      · have H3 := Lib.hid hJx3
        clear hJx3
        gi_wp2
        refine bodyPost_ret (results_none rfl _ _ _) rfl ?_
        have hp2 := hpre.out
        rw [htk.out] at hp2
        exact ⟨⟨_, rfl⟩, .inr ⟨_, hp2, H3.out⟩⟩
    · obtain rfl : k = N := by omega
      have hJ2 := Lib.hid hJk
      clear hJk hrow
      gi_wp2
      go_end0
      refine ⟨⟨_, rfl⟩, .inl ⟨_, rfl, ?_⟩⟩
      have h := hJ2.out
      rw [List.take_of_length_le (by rw [walkL_len, ← HN.out]; exact Nat.le_refl _)] at h
      exact h
end Go.Proofs.YtjefoojkgocinaaDoor

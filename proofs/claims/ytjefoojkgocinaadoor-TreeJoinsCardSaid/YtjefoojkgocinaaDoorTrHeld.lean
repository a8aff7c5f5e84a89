/- loanwordlaw03.held. -/
import Derived.Test.YtjefoojkgocinaaDoorTrFits
import Derived.Test.YtjefoojkgocinaaDoorTrAwake
namespace Go.Proofs.YtjefoojkgocinaaDoor
open Go.RowKit

theorem eqT_refl (p : Bool) (ts : List Nd) : eqT p ts ts = true := eqT_step rfl (fun _i _ => eqP_true_of rfl rfl rfl rfl (fun _ => rfl))
abbrev SE (B E : Nat) : Nat → Prop := fun k => B ≤ k ∧ k < E

set_option maxRecDepth 100000 in
set_option maxHeartbeats 8000000 in
theorem held_any (R : List Nd) (hlen : R.length < 100000000) (hok : ∀ x ∈ R, NdOk x) (Ba E Bb Bw ga ca cb cw : Nat) (aa ab aw : Option Addr) (lsa lsb lsw : List Value) (len : Nat → Nat) (w : World)
    (hS : 0 < R.length → SP w Ba E ga R.length lsa len ∧ aa = some ⟨ga, 0, none⟩ ∧ Ba ≤ ga ∧ ga < E) (hca : R.length ≤ ca) (hcm : ca ≤ 9223372036854775807) (hE : E ≤ w.heap.size) (hna : NodesAt w aa R)
    (hb : OwnTs w Bb (.slice ab R.length cb) R lsb) (hw : OwnTs w Bw (.slice aw R.length cw) R lsw) (hEb : E ≤ Bb) (hEw : E ≤ Bw) :
    Calls Tryd.prog 13 #[.agg #[.slice aa R.length ca], .agg #[.slice ab R.length cb], .agg #[.slice aw R.length cw]] w fun e w' => e = .returned (.bool true) ∧ KB (SE Ba E) w w' := by
  obtain ⟨w0, rfl⟩ : ∃ w0, w0 = w := ⟨_, rfl⟩
  have nodes : ∀ {W : World} {B : Nat} {a : Option Addr} {c : Nat} {ls : List Value}, OwnTs W B (.slice a R.length c) R ls → NodesAt W a R := fun h => by
    obtain ⟨a', c', e, hn, -⟩ := h.nodes
    simp only [Value.slice.injEq] at e
    obtain ⟨rfl, -, rfl⟩ := e
    exact hn
  have C1 := Lib.hid (fun (W : World) (h : KB F0 w0 W) => (eqT_refl true R) ▸ cequal_any R R true hlen hok hok aa aw ca cw W (hna.kbF h) (nodes (hw.kbF h)))
  have C2 := Lib.hid (fun (W : World) (h : KB (SE Ba E) w0 W) => (eqT_refl true R) ▸ cequal_any R R true hlen hok hok ab aw cb cw W (nodes (hb.kb h (fun g h1 _ h3 => by have := h3.2; omega))) (nodes (hw.kb h (fun g h1 _ h3 => by have := h3.2; omega))))
  have C3 := Lib.hid (fun (W : World) (h : KB F0 w0 W) => spoil_any Ba E ga R.length ca aa lsa len W (fun h0 => ⟨(hS h0).1.kb h, (hS h0).2⟩) hca hcm (Nat.le_trans hE h.size))
  clear hS hna hb hw nodes hok
  generalize R.length = N at *
  obtain ⟨A, hA⟩ : ∃ A, A = w0.heap.size := ⟨_, rfl⟩
  have hs1 : (w0.alloc (.cells #[.slice aa N ca] 31)).heap.size = w0.heap.size + 1 := by simp
  have hs2 : ((w0.alloc (.cells #[.slice aa N ca] 31)).alloc (.cells #[.slice ab N cb] 31)).heap.size = w0.heap.size + 1 + 1 := by simp
  obtain ⟨W1, hW1⟩ : ∃ W1, W1 = (((w0.alloc (.cells #[.slice aa N ca] 31)).alloc (.cells #[.slice ab N cb] 31)).alloc (.cells #[.slice aw N cw] 31)) := ⟨_, rfl⟩
  have k1 : KB F0 w0 W1 := by rw [hW1]; exact (((KB.refl _ _).alloc _).alloc _).alloc _
  have h0 : W1.heap[w0.heap.size]? = some (.cells #[.slice aa N ca] 31 (0, 0)) := by
    rw [hW1]; exact (((KB.refl F0 _).alloc _).alloc _).heap (fun x => x) (alloc_new _ _)
  have h1 : W1.heap[w0.heap.size + 1]? = some (.cells #[.slice ab N cb] 31 (0, 0)) := by
    rw [hW1, ← hs1]; exact ((KB.refl F0 _).alloc _).heap (fun x => x) (alloc_new _ _)
  have h2 : W1.heap[w0.heap.size + 1 + 1]? = some (.cells #[.slice aw N cw] 31 (0, 0)) := by
    rw [hW1, ← hs2]; exact alloc_new _ _
  have H1 := Lib.hid (And.intro k1 (And.intro h0 (And.intro h1 h2)))
  have HW1 := Lib.hid hW1
  have b0 : W1.cell? ⟨w0.heap.size, 0, none⟩ = some (.slice aa N ca) := blk_cell h0 0
  have b2 : W1.cell? ⟨w0.heap.size + 1 + 1, 0, none⟩ = some (.slice aw N cw) := blk_cell h2 0
  rw [hW1] at b0 b2
  clear hs1 hs2 hW1 k1 h0 h1 h2
  go_enter Tryd.func13, Tryd.ntmps13
  go_wp2_with fail
  rw [← HW1.out]
  refine (C1.out W1 H1.out.1).mono ?_
  rintro e W2 ⟨rfl, k2⟩
  have K2 := Lib.hid (H1.out.1.trans k2)
  have hh0 := k2.heap (fun x => x) H1.out.2.1
  have hh1 := k2.heap (fun x => x) H1.out.2.2.1
  have hh2 := k2.heap (fun x => x) H1.out.2.2.2
  have b0 : W2.cell? ⟨w0.heap.size, 0, none⟩ = some (.slice aa N ca) := blk_cell hh0 0
  have HH := Lib.hid (And.intro hh0 (And.intro hh1 hh2))
  clear k2 hh0 hh1 hh2 b2
  go_wp2_with fail
  refine (C3.out W2 K2.out).mono ?_
  rintro e W3 ⟨rfl, k3⟩
  have K3 := Lib.hid ((K2.out.mono (fun _ _ x => x.elim)).trans k3)
  have b1 : W3.cell? ⟨w0.heap.size + 1, 0, none⟩ = some (.slice ab N cb) := blk_cell (k3.heap (fun h => by have := h.2; omega) HH.out.2.1) 0
  have b2 : W3.cell? ⟨w0.heap.size + 1 + 1, 0, none⟩ = some (.slice aw N cw) := blk_cell (k3.heap (fun h => by have := h.2; omega) HH.out.2.2) 0
  clear k3 b0
  go_wp2_with fail
  refine (C2.out W3 K3.out).mono ?_
  rintro e W4 ⟨rfl, k4⟩
  have K4 := Lib.hid (K3.out.trans (k4.mono (fun _ _ x => x.elim)))
  clear k4
  go_wp2
  go_ret
  exact ⟨rfl, K4.out⟩
theorem OwnTs.at_ {W : World} {B c n : Nat} {a : Option Addr} {ts : List Nd} {ls : List Value} (h : OwnTs W B (.slice a n c) ts ls) : NodesAt W a ts ∧ ts.length ≤ c ∧ c ≤ 9223372036854775807 := by
  obtain ⟨a', c', e, hn, h1, h2, -⟩ := h.nodes
  simp only [Value.slice.injEq] at e
  obtain ⟨rfl, -, rfl⟩ := e
  unfold maxLen at h2
  exact ⟨hn, h1, by omega⟩
theorem OwnTs.spE {W : World} {B c : Nat} {a : Option Addr} {ts : List Nd} {ls : List Value} (h : OwnTs W B (.slice a ts.length c) ts ls) : ∃ g, 0 < ts.length → SP W B W.heap.size g ts.length ls (fun k => (ts.getD k nd0).l.length) ∧ a = some ⟨g, 0, none⟩ ∧ B ≤ g ∧ g < W.heap.size := by
  by_cases h0 : 0 < ts.length
  · obtain ⟨g, c', e, -⟩ := h.shape h0
    simp only [Value.slice.injEq, true_and] at e
    obtain ⟨rfl, rfl⟩ := e
    exact ⟨g, fun _ => ⟨(h.sp h0).1, rfl, (h.sp h0).2⟩⟩
  · exact ⟨0, fun h => (h0 h).elim⟩

theorem subT_le (ts : List Nd) (n : Int) : (subT ts n).length ≤ ts.length := by
  unfold subT
  split
  · unfold subN; simp; omega
  · exact Nat.zero_le _
theorem subT_ok {ts : List Nd} {n : Int} (hok : ∀ x ∈ ts, NdOk x) : ∀ x ∈ subT ts n, NdOk x := by
  unfold subT
  split
  · rename_i h
    intro x hx
    obtain ⟨y, hy, rfl⟩ := List.mem_map.1 hx
    have hyo := hok y (mem_part hy)
    refine ⟨hyo.k, hyo.at1, hyo.at2, hyo.n1, hyo.n2, hyo.s, fun c hc => ?_⟩
    obtain ⟨c0, hc0, rfl⟩ := List.mem_map.1 hc
    unfold subOk at h
    simp only [Bool.and_eq_true, decide_eq_true_eq] at h
    obtain ⟨hg, hl, -, -⟩ := may_parts h.1.1
    obtain ⟨i, h1, h2, rfl⟩ := kids_of_mem hy
    have := good_down hg i h2 c0 hc0
    omega
  · intro x hx; cases hx
end Go.Proofs.YtjefoojkgocinaaDoor

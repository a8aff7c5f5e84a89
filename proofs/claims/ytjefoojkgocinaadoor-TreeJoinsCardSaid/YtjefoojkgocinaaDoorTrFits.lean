/- loanwordlaw03.fits, spoil, held. -/
import Derived.Test.YtjefoojkgocinaaDoorTrOwn
import Derived.Test.YtjefoojkgocinaaDoorTrEqual
namespace Go.Proofs.YtjefoojkgocinaaDoor
open Go.RowKit

set_option maxRecDepth 100000 in
set_option maxHeartbeats 8000000 in
theorem fits_any (ts : List Nd) (a : Option Addr) (cap : Nat) (hcap : ts.length ≤ cap) (_hcm : cap ≤ 9223372036854775807) (w : World) (hts : NodesAt w a ts) :
    Calls Tryd.prog 9 #[.agg #[.slice a ts.length cap]] w fun e w' => ∃ f : Bool, e = .returned (.bool f) ∧ (f = true → ts.length ≤ 16392 ∧ ∀ x ∈ ts, x.l.length ≤ 16392) ∧ KB F0 w w' := by
  obtain ⟨w0, rfl⟩ : ∃ w0, w0 = w := ⟨_, rfl⟩
  obtain ⟨N, hN⟩ : ∃ N, N = ts.length := ⟨_, rfl⟩
  rw [← hN] at hcap ⊢
  have HN := Lib.hid hN
  have HTS := Lib.hid hts
  have b0 : (w0.alloc (.cells #[.slice a N cap] 31)).cell? ⟨w0.heap.size, 0, none⟩ = some (.slice a N cap) := new_cell _ _ _ 0
  have K1 := Lib.hid ((KB.refl F0 w0).alloc (.cells #[.slice a N cap] 31))
  clear hts hN
  by_cases hbig : 16392 < N
  · have d1 : decide ((16392 : Int) < (N : Int)) = true := decide_eq_true (by omega)
    go_enter Tryd.func9, Tryd.ntmps9
    go_wp2
    go_ret
    exact ⟨false, rfl, (fun h => by cases h), K1.out⟩
  · have d1 : decide ((16392 : Int) < (N : Int)) = false := decide_eq_false (by omega)
    have hN2 : N ≤ 16392 := by omega
    go_enter Tryd.func9, Tryd.ntmps9
    go_wp2_with fail
    obtain ⟨W1, hW1⟩ : ∃ W1, W1 = (w0.alloc (.cells #[.slice a N cap] 31)) := ⟨_, rfl⟩
    rw [← hW1] at K1 b0 ⊢
    clear hW1
    have H1 := Lib.hid b0
    clear b0
    go_loopw [4, 3] (fun iv nv wr => ∃ i n : Nat, i ≤ N ∧ n ≤ 16392 ∧ iv = .int .i64 i ∧ nv = .int .i64 n ∧ KB F0 W1 wr ∧ Hid (∀ k, k < i → (ts.getD k nd0).l.length ≤ 16392)) (fun iv _ _ => N - (intOf iv).toNat)
    case atStart => exact ⟨0, 0, by omega, by omega, rfl, rfl, KB.refl _ _, Lib.hid (fun k hk => by omega)⟩
    case round =>
      obtain ⟨i, n, hi, hn, rfl, rfl, hkb, hall⟩ := hrel
      have b0 := hkb.cell (p := ⟨w0.heap.size, 0, none⟩) (fun x => x) H1.out
      have HK := Lib.hid (K1.out.trans hkb)
      have HK1 := Lib.hid hkb
      by_cases hlt : i < N
      · obtain ⟨b, off, rfl, hnd0⟩ := HTS.out i (by rw [← HN.out]; exact hlt)
        obtain ⟨la, lc, hl4, -, hlc, hlm⟩ := (hnd0.kbF HK.out).l
        have hnx : Hid ((ts.getD i nd0).l.length ≤ 16392 → ∀ k, k < i + 1 → (ts.getD k nd0).l.length ≤ 16392) := Lib.hid (fun h k hk => by
          rcases Nat.lt_or_eq_of_le (Nat.lt_succ_iff.1 hk) with h' | rfl
          · exact hall.out k h'
          · exact h)
        generalize (ts.getD i nd0).l.length = M at hl4 hlc hnx
        unfold maxLen at hlm
        have hiN : (i : Int) < (N : Int) := by omega
        clear hnd0 hkb hall
        by_cases hM : 16392 - n < M
        · have d2 : decide ((16392 : Int) - (n : Int) < (M : Int)) = true := decide_eq_true (by omega)
          have hwr : IntKind.i64.wrap (16392 - (n : Int)) = 16392 - (n : Int) := w64 (by omega) (by omega)
          go_wp2
          go_ret
          exact ⟨false, rfl, (fun h => by cases h), HK.out⟩
        · have d2 : decide ((16392 : Int) - (n : Int) < (M : Int)) = false := decide_eq_false (by omega)
          have hwr : IntKind.i64.wrap (16392 - (n : Int)) = 16392 - (n : Int) := w64 (by omega) (by omega)
          have hall2 := Lib.hid (hnx.out (by omega))
          have hnM : n + M ≤ 16392 := by omega
          go_wp2
          go_roundw
          case rel => exact ⟨i + 1, n + M, by omega, by omega, by go_num, by go_num, HK1.out, hall2⟩
          case measure => simp [intOf]; omega
      · obtain rfl : i = N := by omega
        clear hkb
        go_wp2
        go_ret
        refine ⟨true, rfl, fun _ => ⟨hN2, fun x hx => ?_⟩, HK.out⟩
        obtain ⟨k, hk, rfl⟩ := List.getElem_of_mem hx
        have := hall.out k (by rw [HN.out]; exact hk)
        rwa [List.getD_eq_getElem?_getD, List.getElem?_eq_getElem hk] at this

/-- What writing over a tree leaves as it is: its row, its lists' places. -/
structure SP (w : World) (B E g N : Nat) (ls : List Value) (len : Nat → Nat) : Prop where
  row : ∃ cur, w.heap[g]? = some (.cells cur 25 (0, 0)) ∧ N * 5 ≤ cur.size ∧ ∀ k, k < N → cur[k * 5 + 4]? = some (ls.getD k undef)
  lists : ∀ k, k < N → ∃ a c, ls.getD k undef = .slice a (len k) c ∧ len k ≤ c ∧ c ≤ maxLen ∧ ∀ j, j < len k → ∃ h, a = some ⟨h, 0, none⟩ ∧ B ≤ h ∧ h < E ∧ ∃ cur, w.heap[h]? = some (.cells cur 3 (0, 0)) ∧ len k ≤ cur.size
theorem SP.kb {w w' : World} {B E g N : Nat} {ls : List Value} {len : Nat → Nat} (h : SP w B E g N ls len) (hk : KB F0 w w') : SP w' B E g N ls len := by
  obtain ⟨cur, h1, h2, h3⟩ := h.row
  refine ⟨⟨cur, hk.heap (fun x => x) h1, h2, h3⟩, fun k hk' => ?_⟩
  obtain ⟨a, c, e1, e2, e3, e4⟩ := h.lists k hk'
  refine ⟨a, c, e1, e2, e3, fun j hj => ?_⟩
  obtain ⟨b, f1, f2, f3, cu, f4, f5⟩ := e4 j hj
  exact ⟨b, f1, f2, f3, cu, hk.heap (fun x => x) f4, f5⟩
theorem SP.set {w : World} {B E g N h i : Nat} {ls : List Value} {len : Nat → Nat} (hs : SP w B E g N ls len) (u : Value) (hne : h = g → ∀ k, k < N → i ≠ k * 5 + 4) : SP (w.setCell ⟨h, i, none⟩ u) B E g N ls len := by
  have key : ∀ {b : Nat} {cs : Array Value} {t : TypeId}, w.heap[b]? = some (.cells cs t (0, 0)) → ∃ cs', (w.setCell ⟨h, i, none⟩ u).heap[b]? = some (.cells cs' t (0, 0)) ∧ cs'.size = cs.size ∧ ∀ j, (b = h → j ≠ i) → cs'[j]? = cs[j]? := fun {b cs t} hb => by
    by_cases e : b = h
    · subst e
      refine ⟨_, setCell_blk (i := i) hb u, by rw [Array.size_setIfInBounds], fun j hj => ?_⟩
      rw [Array.getElem?_setIfInBounds_ne (fun e => hj rfl e.symm)]
    · exact ⟨cs, (kb_set w h i u).heap e hb, rfl, fun _ _ => rfl⟩
  obtain ⟨cur, h1, h2, h3⟩ := hs.row
  obtain ⟨cur', g1, g2, g3⟩ := key h1
  refine ⟨⟨cur', g1, by omega, fun k hk => ?_⟩, fun k hk' => ?_⟩
  · rw [g3 _ (fun e => fun e2 => hne e.symm k hk e2.symm)]; exact h3 k hk
  · obtain ⟨a, c, e1, e2, e3, e4⟩ := hs.lists k hk'
    refine ⟨a, c, e1, e2, e3, fun j hj => ?_⟩
    obtain ⟨b, f1, f2, f3, cu, f4, f5⟩ := e4 j hj
    obtain ⟨cu', k1, k2, -⟩ := key f4
    exact ⟨b, f1, f2, f3, cu', k1, by omega⟩

set_option maxRecDepth 100000 in
set_option maxHeartbeats 8000000 in
theorem spoil_any (B E g N cap : Nat) (a : Option Addr) (ls : List Value) (len : Nat → Nat) (w : World) (hS : 0 < N → SP w B E g N ls len ∧ a = some ⟨g, 0, none⟩ ∧ B ≤ g ∧ g < E) (hcap : N ≤ cap) (hcm : cap ≤ 9223372036854775807) (hE : E ≤ w.heap.size) :
    Calls Tryd.prog 32 #[.agg #[.slice a N cap]] w fun e w' => e = .returned (.tuple #[]) ∧ KB (fun k => B ≤ k ∧ k < E) w w' := by
  obtain ⟨w0, rfl⟩ : ∃ w0, w0 = w := ⟨_, rfl⟩
  obtain ⟨A, hA⟩ : ∃ A, A = w0.heap.size := ⟨_, rfl⟩
  have hbt : (w0.alloc (.cells #[.slice a N cap] 31)).heap[w0.heap.size]? = some (.cells #[.slice a N cap] 31 (0, 0)) := alloc_new _ _
  have K1 : KB (fun k => B ≤ k ∧ k < E) w0 (w0.alloc (.cells #[.slice a N cap] 31)) := (KB.refl _ _).alloc _
  have H1 := Lib.hid (And.intro hbt (And.intro K1 (fun h => ((hS h).1.kb ((KB.refl F0 w0).alloc (.cells #[.slice a N cap] 31))))))
  have HS := Lib.hid (fun h => (hS h).2)
  clear hbt K1 hS
  go_enter Tryd.func32, Tryd.ntmps32
  go_wp2_with fail
  obtain ⟨W1, hW1⟩ : ∃ W1, W1 = (w0.alloc (.cells #[.slice a N cap] 31)) := ⟨_, rfl⟩
  rw [← hW1] at H1 ⊢
  rw [← hA] at H1 hE ⊢
  have HA := Lib.hid hA
  clear hW1 hA
  go_loopw [2] (fun iv wr => ∃ i : Nat, i ≤ N ∧ iv = .int .i64 i ∧ wr.heap[A]? = some (.cells #[.slice a N cap] 31 (0, 0)) ∧ KB (fun k => B ≤ k ∧ k < E) w0 wr ∧ Hid (0 < N → SP wr B E g N ls len)) (fun iv _ => N - (intOf iv).toNat)
  case atStart => exact ⟨0, by omega, rfl, H1.out.1, H1.out.2.1, Lib.hid H1.out.2.2⟩
  case round =>
    obtain ⟨i, hi, rfl, hbt, hkb, hsp⟩ := hrel
    have b0 : wr.cell? ⟨A, 0, none⟩ = some (.slice a N cap) := blk_cell hbt 0
    by_cases hlt : i < N
    · obtain ⟨rfl, hgB, hgE⟩ := HS.out (by omega)
      have hsp1 := hsp.out (by omega)
      have HK := Lib.hid (And.intro hbt (And.intro hkb hsp1))
      obtain ⟨la, lc, hl0, hlc, hlm, hl1⟩ := hsp1.lists i hlt
      have hiN : (i : Int) < (N : Int) := by omega
      clear hsp hsp1 hbt hkb
      unfold maxLen at hlm
      obtain ⟨M, hM⟩ : ∃ M, M = len i := ⟨_, rfl⟩
      rw [← hM] at hl0 hlc hl1
      have HL := Lib.hid (And.intro hl0 hM)
      clear hl0 hl1 hM
      go_wp2_with fail
      go_loopw [3] (fun jv w2 => ∃ j : Nat, j ≤ M ∧ jv = .int .i64 j ∧ w2.heap[A]? = some (.cells #[.slice (some ⟨g, 0, none⟩) N cap] 31 (0, 0)) ∧ KB (fun k => B ≤ k ∧ k < E) w0 w2 ∧ Hid (SP w2 B E g N ls len)) (fun jv _ => M - (intOf jv).toNat)
      case atStart => exact ⟨0, by omega, rfl, HK.out.1, HK.out.2.1, Lib.hid HK.out.2.2⟩
      case round =>
        obtain ⟨j, hj, rfl, hbt, hkb, hsp⟩ := hrel
        have b0 : wr.cell? ⟨A, 0, none⟩ = some (.slice (some ⟨g, 0, none⟩) N cap) := blk_cell hbt 0
        obtain ⟨cur, hr1, hr2, hr3⟩ := hsp.out.row
        have r4 : wr.cell? ⟨g, i * 5 + 4, none⟩ = some (.slice la M lc) := by rw [blk_cell hr1, hr3 i hlt, HL.out.1]
        by_cases hjt : j < M
        · obtain ⟨la2, lc2, e1, -, -, hl2⟩ := hsp.out.lists i hlt
          rw [HL.out.1] at e1
          simp only [Value.slice.injEq] at e1
          obtain ⟨rfl, -, rfl⟩ := e1
          obtain ⟨h, rfl, hh1, hh2, cu, hh3, hh4⟩ := hl2 j (by rw [← HL.out.2]; exact hjt)
          rw [← HL.out.2] at hh4
          obtain ⟨v0, hv0⟩ : ∃ v0, cu[j]? = some v0 := ⟨_, Array.getElem?_eq_getElem (by omega)⟩
          have c0 : wr.cell? ⟨h, j, none⟩ = some v0 := by rw [blk_cell hh3]; exact hv0
          have f0 := blk_frozen hh3 j
          have hne : h ≠ g := fun e => by subst e; rw [hr1] at hh3; cases hh3
          have ks := kb_set wr h j (.int .i64 (-5))
          have HN := Lib.hid (And.intro (ks.heap (b := A) (fun e => by omega) hbt) (And.intro (hkb.trans (ks.mono (fun k _ e => by rw [e]; exact ⟨hh1, hh2⟩))) (hsp.out.set (h := h) (i := j) (.int .i64 (-5)) (fun e => (hne e).elim))))
          clear hbt hkb hsp hr1 hr2 hr3 hh3 ks hne
          go_wp2
          go_roundw
          case rel => exact ⟨j + 1, by omega, by go_num, HN.out.1, HN.out.2.1, Lib.hid HN.out.2.2⟩
          case measure => simp [intOf]; omega
        · obtain rfl : j = M := by omega
          obtain ⟨v0, hv0⟩ : ∃ v0, cur[i * 5 + 3]? = some v0 := ⟨_, Array.getElem?_eq_getElem (by omega)⟩
          have c0 : wr.cell? ⟨g, i * 5 + 3, none⟩ = some v0 := by rw [blk_cell hr1]; exact hv0
          have f0 := blk_frozen hr1 (i * 5 + 3)
          have ks := kb_set wr g (i * 5 + 3) (.string { data := #[111, 118, 101, 114] })
          have HN := Lib.hid (And.intro (ks.heap (b := A) (fun e => by omega) hbt) (And.intro (hkb.trans (ks.mono (fun k _ e => by rw [e]; exact ⟨hgB, hgE⟩))) (hsp.out.set (h := g) (i := i * 5 + 3) (.string { data := #[111, 118, 101, 114] }) (fun _ k hk => by omega))))
          clear hbt hkb hsp hr1 hr2 hr3 ks
          go_wp2
          go_roundw
          case rel => exact ⟨i + 1, by omega, by go_num, HN.out.1, HN.out.2.1, Lib.hid (fun _ => HN.out.2.2)⟩
          case measure => simp [intOf]; omega
    · obtain rfl : i = N := by omega
      have HK := Lib.hid hkb
      clear hkb hbt hsp
      go_wp2
      go_end0
      exact ⟨rfl, HK.out⟩
theorem OwnTs.sp {w : World} {B g n cap : Nat} {ts : List Nd} {ls : List Value} (h : OwnTs w B (.slice (some ⟨g, 0, none⟩) n cap) ts ls) (_hn : 0 < ts.length) : SP w B w.heap.size g ts.length ls (fun k => (ts.getD k nd0).l.length) ∧ B ≤ g ∧ g < w.heap.size := by
  obtain ⟨hr1, hr2⟩ := h.row
  rcases hr2 with ⟨hr2, -⟩ | ⟨g', cap', cur, hv, hb, hh, hcap, hm, hsz, hx⟩
  · cases hr2
  simp only [Value.slice.injEq, Option.some.injEq, Addr.mk.injEq, and_true] at hv
  obtain ⟨rfl, rfl, rfl⟩ := hv
  refine ⟨⟨⟨cur, hh, by omega, fun k hk => ?_⟩, fun k hk => ?_⟩, hb, heap_lt hh⟩
  · rw [← Array.getElem?_toList]
    have e := congrArg (fun l => l[k * 5 + 4]?) hx
    simp only [List.getElem?_take] at e
    rw [if_pos (by omega), rowCells_get _ _ h.len k 4 hk (by omega)] at e
    rw [e]; rfl
  · obtain ⟨a1, h1, h2, h3, e, h5, h6, h7, h8⟩ : ∃ a1 : Option Addr, ∃ c1 : Nat, ∃ _ : True, ∃ _ : True, ls.getD k undef = .slice a1 (ts.getD k nd0).l.length c1 ∧ (ts.getD k nd0).l.length ≤ c1 ∧ c1 ≤ maxLen ∧ True ∧ ∀ j, j < (ts.getD k nd0).l.length → ∃ h, a1 = some ⟨h, 0, none⟩ ∧ B ≤ h ∧ h < w.heap.size ∧ ∃ cur, w.heap[h]? = some (.cells cur 3 (0, 0)) ∧ (ts.getD k nd0).l.length ≤ cur.size := by
      obtain ⟨g1, g2⟩ := h.lists k hk
      rcases g2 with ⟨e, e0⟩ | ⟨h, c, cu, e, q1, q2, q3, q4, q5, -⟩
      · exact ⟨none, 0, trivial, trivial, by rw [e, e0], by omega, by decide, trivial, fun j hj => by omega⟩
      · exact ⟨some ⟨h, 0, none⟩, c, trivial, trivial, e, q3, q4, trivial, fun j hj => ⟨h, rfl, q1, heap_lt q2, cu, q2, by omega⟩⟩
    exact ⟨a1, h1, e, h5, h6, h8⟩
end Go.Proofs.YtjefoojkgocinaaDoor

/- loanwordref09.endless. types.May, may; lists of types asked; loanwordref09.Types. layout.Boxes. layout.Boxes, Field; types.Words. -/
import Derived.Test.YtaeppaaolkcbbaaGreatDoorMg04
import Derived.Deep.DeepCutAuto
import Derived.Test.YtaeppaaolkcbbaaGreatDoorMg06
import Derived.Test.YtaeppaaolkcbbaaGreatDoorMg02
import Derived.Test.YtaeppaaolkcbbaaGreatDoorMg05
import Derived.Test.YtaeppaaolkcbbaaGreatDoorMg07
namespace Go.Proofs.YtaeppaaolkcbbaaGreatDoor
open Go.RowKit

/-- The marks, somewhere in a round that began with A. -/
structure RdSt' (S : List (List Ty)) (n : Nat) (w0 : World) (X : Nat) (wr : World) (A M : List Bool) (b : Nat) : Prop where
  kb : KB F0 w0 wr
  lo : w0.heap.size ≤ X
  arr : ArrAt wr X M
  met : Met S n M
  grow : Grow A M
  done : ∀ u, u < b → (u = n ∨ atB A u = true) → ∀ f ∈ fds S u, f.k = 5 → atB M f.s.toNat = true
theorem RdSt'.set {S : List (List Ty)} (hS : InR S) (h32 : S.length ≤ 32) {n : Nat} {w0 : World} {X : Nat} {wr : World} {A M : List Bool} {b i j : Nat} (h : RdSt' S n w0 X wr A M b) (hb : b = n ∨ atB M b = true)
    (hi : i < (fds S b).length) (hf : ((fds S b).getD i ty0).k = 5) (hj : ((fds S b).getD i ty0).s.toNat = j) : RdSt' S n w0 X (wr.setCell ⟨X, j, none⟩ (.bool true)) A (M.set j true) b := by
  have hm : (fds S b).getD i ty0 ∈ fds S b := by rw [List.getD_eq_getElem?_getD, List.getElem?_eq_getElem hi]; exact List.getElem_mem hi
  have hjl : j < S.length := hj ▸ hS.lt hm hf
  have hjM : j < M.length := by rw [h.met.len]; omega
  have hr : Rch S n j := by
    rcases hb with rfl | hb
    · exact hj ▸ Rch.one hm hf
    · exact hj ▸ Rch.more (h.met.ok b hb) hm hf
  refine ⟨h.kb.oldS (kb_set wr X j (.bool true)) (fun k hk e => by have := h.lo; omega), h.lo, h.arr.set j, h.met.set (by omega) hr, h.grow.set hjM, fun u hu hh f hf hk => ?_⟩
  rw [atB_set hjM, h.done u hu hh f hf hk]; rfl
theorem RdSt'.next {S : List (List Ty)} {n : Nat} {w0 : World} {X : Nat} {wr : World} {A M : List Bool} {b : Nat} (h : RdSt' S n w0 X wr A M b)
    (hd : (b = n ∨ atB M b = true) → ∀ i, i < (fds S b).length → ((fds S b).getD i ty0).k = 5 → atB M ((fds S b).getD i ty0).s.toNat = true) : RdSt' S n w0 X wr A M (b + 1) := by
  refine ⟨h.kb, h.lo, h.arr, h.met, h.grow, fun u hu hh f hf hk => ?_⟩
  rcases Nat.lt_or_eq_of_le (Nat.lt_succ_iff.1 hu) with h1 | rfl
  · exact h.done u h1 hh f hf hk
  · obtain ⟨i, hi, rfl⟩ := List.getElem_of_mem hf
    have := hd (hh.imp id (h.grow.2.2 u)) i hi
    rw [List.getD_eq_getElem?_getD, List.getElem?_eq_getElem hi] at this
    exact this hk
end Go.Proofs.YtaeppaaolkcbbaaGreatDoor

namespace Go.Proofs.YtaeppaaolkcbbaaGreatDoor
open Go.RowKit

/-- A type among structs that may be. -/
def MayT (S : List (List Ty)) (t : Ty) : Prop := GoodS S ∧ lookB S.length 48 t = true
def BoolEnd (P : Prop) (w : World) (e : Ending) (w' : World) : Prop := ∃ ok : Bool, e = .returned (.bool ok) ∧ (ok = true ↔ P) ∧ KB F0 w w'
set_option maxRecDepth 100000 in
set_option maxHeartbeats 16000000 in
theorem tyMay_any (S : List (List Ty)) (hn : S.length ≤ 1000000) (hl : ∀ i, (fds S i).length ≤ 1000000) (a : Option Addr) (c : Nat) (hc : S.length ≤ c) (t : Ty) (ta : Option Addr) (tc : Nat) (w : World) (h : StsAt 49 w a S) (ht : TyAt 49 w t ta tc) :
    Calls Tryz.prog 30 #[.slice a S.length c, tyV t ta tc] w (BoolEnd (MayT S t) w) := by
  obtain ⟨w0, rfl⟩ : ∃ w0, w0 = w := ⟨_, rfl⟩
  obtain ⟨W, hW⟩ : ∃ W, W = w0.alloc (.cells #[.int .u8 t.k, .bool t.m, .int .i64 t.r, .int .i64 t.s, .slice ta t.of.length tc] 26) := ⟨_, rfl⟩
  obtain ⟨kb, hb⟩ := boxTy w0 t ta tc
  rw [← hW] at kb hb
  obtain ⟨c0, c1, c2, c3, c4⟩ := TyCells.of_block hb
  simp only [Nat.zero_add] at c0 c1 c2 c3 c4
  have ST := Lib.hid (tyStructs_any S hn hl a c hc W (h.kbF kb))
  have LK := Lib.hid (fun (V : World) (hk : KB F0 W V) => look_any S.length 48 (by omega) t ta tc V (ht.kbF (kb.trans hk)))
  obtain ⟨q, hq⟩ : ∃ q, q = lookB S.length 48 t := ⟨_, rfl⟩
  have HP : Hid (MayT S t = (GoodS S ∧ q = true)) := Lib.hid (by rw [hq]; rfl)
  rw [← hq] at LK
  rw [HP.out]
  have HW := Lib.hid hW
  have HK := Lib.hid kb
  unfold tyV at LK ⊢
  generalize S.length = n at *
  clear h ht hb hW hq HP kb
  obtain ⟨fk, hfk⟩ : ∃ x, x = t.k := ⟨_, rfl⟩
  rw [← hfk] at c0 LK HW ⊢
  obtain ⟨fm, hfm⟩ : ∃ x, x = t.m := ⟨_, rfl⟩
  rw [← hfm] at c1 LK HW ⊢
  obtain ⟨fr, hfr⟩ : ∃ x, x = t.r := ⟨_, rfl⟩
  rw [← hfr] at c2 LK HW ⊢
  obtain ⟨fs, hfs⟩ : ∃ x, x = t.s := ⟨_, rfl⟩
  rw [← hfs] at c3 LK HW ⊢
  obtain ⟨N, hN⟩ : ∃ x, x = t.of.length := ⟨_, rfl⟩
  rw [← hN] at c4 LK HW ⊢
  clear hfk hfm hfr hfs hN
  go_enter Tryz.func30, Tryz.ntmps30
  go_upto_region 1 with fail
  rw [← HW.out]
  go_wp2_with fail
  refine ST.out.mono ?_
  rintro e w1 ⟨at_, ok, rfl, hE, k1⟩
  have HE := Lib.hid hE.good
  have K1 := Lib.hid k1
  have d0 := k1.cell (p := ⟨w0.heap.size, 0, none⟩) (fun x => x) c0
  have d1 := k1.cell (p := ⟨w0.heap.size, 1, none⟩) (fun x => x) c1
  have d2 := k1.cell (p := ⟨w0.heap.size, 2, none⟩) (fun x => x) c2
  have d3 := k1.cell (p := ⟨w0.heap.size, 3, none⟩) (fun x => x) c3
  have d4 := k1.cell (p := ⟨w0.heap.size, 4, none⟩) (fun x => x) c4
  clear k1 hE c0 c1 c2 c3 c4
  cases ok with
  | false =>
    simp only [stErr]
    go_wp2_with fail
    go_ret
    exact ⟨false, rfl, ⟨fun h => (by cases h), fun h => by have := HE.out.2 h.1; cases this⟩, HK.out.trans K1.out⟩
  | true =>
    simp only [stErr]
    go_wp2_with fail
    refine (LK.out _ K1.out).mono ?_
    rintro e w2 ⟨rfl, k2⟩
    have K2 := Lib.hid k2
    clear k2 d0 d1 d2 d3 d4
    go_wp2_with fail
    go_ret
    exact ⟨q, rfl, ⟨fun h => ⟨HE.out.1 trivial, h⟩, fun h => h.2⟩, HK.out.trans (K1.out.trans K2.out)⟩
set_option maxRecDepth 100000 in
set_option maxHeartbeats 16000000 in
theorem tymay_any (t : Ty) (ta : Option Addr) (tc : Nat) (w : World) (ht : TyAt 49 w t ta tc) :
    Calls Tryz.prog 109 #[tyV t ta tc] w fun e w' => e = .returned (.bool (lookB 32 48 t)) ∧ KB F0 w w' := by
  obtain ⟨w0, rfl⟩ : ∃ w0, w0 = w := ⟨_, rfl⟩
  obtain ⟨W, hW⟩ : ∃ W, W = w0.alloc (.cells #[.int .u8 t.k, .bool t.m, .int .i64 t.r, .int .i64 t.s, .slice ta t.of.length tc] 26) := ⟨_, rfl⟩
  obtain ⟨kb, hb⟩ := boxTy w0 t ta tc
  rw [← hW] at kb hb
  obtain ⟨c0, c1, c2, c3, c4⟩ := TyCells.of_block hb
  simp only [Nat.zero_add] at c0 c1 c2 c3 c4
  have LK := Lib.hid (look_any 32 48 (by omega) t ta tc W (ht.kbF kb))
  generalize lookB 32 48 t = q at *
  have HW := Lib.hid hW
  have HK := Lib.hid kb
  unfold tyV at LK ⊢
  clear ht hb hW kb
  obtain ⟨fk, hfk⟩ : ∃ x, x = t.k := ⟨_, rfl⟩
  rw [← hfk] at c0 LK HW ⊢
  obtain ⟨fm, hfm⟩ : ∃ x, x = t.m := ⟨_, rfl⟩
  rw [← hfm] at c1 LK HW ⊢
  obtain ⟨fr, hfr⟩ : ∃ x, x = t.r := ⟨_, rfl⟩
  rw [← hfr] at c2 LK HW ⊢
  obtain ⟨fs, hfs⟩ : ∃ x, x = t.s := ⟨_, rfl⟩
  rw [← hfs] at c3 LK HW ⊢
  obtain ⟨N, hN⟩ : ∃ x, x = t.of.length := ⟨_, rfl⟩
  rw [← hN] at c4 LK HW ⊢
  clear hfk hfm hfr hfs hN
  go_enter Tryz.func109, Tryz.ntmps109
  go_upto_region 1 with fail
  rw [← HW.out]
  go_wp2_with fail
  refine LK.out.mono ?_
  rintro e w1 ⟨rfl, k1⟩
  have K1 := Lib.hid k1
  clear k1 c0 c1 c2 c3 c4
  go_wp2_with fail
  go_ret
  exact ⟨rfl, HK.out.trans K1.out⟩
/-- All types of a list. -/
def AllT (S : List (List Ty)) (l : List Ty) : Prop := GoodS S ∧ ∀ t ∈ l, lookB S.length 48 t = true
end Go.Proofs.YtaeppaaolkcbbaaGreatDoor

namespace Go.Proofs.YtaeppaaolkcbbaaGreatDoor
open Go.RowKit

def atsI (L : List (Nat × Ty)) : List Int := L.map fun q => (q.1 : Int)
def BxInv (w00 : World) (X : Nat) (L : List (Nat × Ty)) (W : World) : Prop := ∃ v, RegAt w00 W X (atsI L) v
/-- The old blocks that may change: the cell X, blocks of numbers. -/
def BxP (X : Nat) (W : World) (k : Nat) : Prop := k = X ∨ ∃ cs, W.heap[k]? = some (.cells cs 3 (0, 0))
theorem bx_met (w00 : World) (X : Nat) : MetOk w00 (BxP X) (BxInv w00 X) where
  kb := fun L W ⟨v, h⟩ => h.kb
  mono := fun L W W' ⟨v, h⟩ hk => ⟨⟨v, h.kb.trans hk, h.lo, hk.heap (fun x => x) h.cell, own_kb h.own hk (fun _ _ x => x)⟩, fun k hp => by
    by_cases hlt : k < W.heap.size
    · refine Or.inl ?_
      rcases hp with rfl | ⟨cs, hp⟩
      · exact Or.inl rfl
      · exact Or.inr ⟨cs, by rw [← hk.block k hlt (fun x => x)]; exact hp⟩
    · exact Or.inr (by omega)⟩
  fld := fun L W k cs ⟨v, h⟩ hc hp => by
    rcases hp with rfl | ⟨cs2, hp⟩
    · rw [h.cell] at hc
      simp only [Option.some.injEq, Obj.cells.injEq] at hc
      exact absurd hc.2.1 (by decide)
    · rw [hp] at hc
      simp only [Option.some.injEq, Obj.cells.injEq] at hc
      exact absurd hc.2.1 (by decide)
set_option maxRecDepth 100000 in
set_option maxHeartbeats 8000000 in
theorem bx_step (S : List (List Ty)) (w00 : World) (X : Nat) : BoxStep w00 S 40 #[.pointer (some ⟨X, 0, none⟩)] (BxP X) (fun L W => BxInv w00 X L W) := by
  intro L p u ua uc w hp hL hinv hlk hu
  obtain ⟨v, hR⟩ := hinv
  obtain ⟨xs, hxs⟩ : ∃ xs, xs = atsI L := ⟨_, rfl⟩
  have hxl : xs.length ≤ 200 := by rw [hxs]; simpa [atsI] using hL
  rw [← hxs] at hR
  have HE1 : Hid (atsI (L ++ [(p, u)]) = xs ++ [(p : Int)]) := Lib.hid (by rw [hxs]; simp [atsI])
  obtain ⟨N, hN⟩ : ∃ N, N = xs.length := ⟨_, rfl⟩
  obtain ⟨w0, rfl⟩ : ∃ w0, w0 = w := ⟨_, rfl⟩
  obtain ⟨W, hW⟩ : ∃ W, W = w0.alloc (.cells #[.int .u8 u.k, .bool u.m, .int .i64 u.r, .int .i64 u.s, .slice ua u.of.length uc] 26) := ⟨_, rfl⟩
  obtain ⟨kb, hb⟩ := boxTy w0 u ua uc
  rw [← hW] at kb hb
  have hR1 : RegAt w00 W X xs v := ⟨hR.kb.trans kb, hR.lo, kb.heap (fun x => x) hR.cell, own_kb hR.own kb (fun _ _ x => x)⟩
  have x0 : W.cell? ⟨X, 0, none⟩ = some v := blk_cell hR1.cell 0
  have HR := Lib.hid (And.intro hR1 (And.intro hN (And.intro kb hR)))
  have HW := Lib.hid hW
  have hz := hR1.kb.size
  rw [← hN] at hxl
  clear hN hR hR1 hxs hb hL hlk hu hW kb
  unfold tyV
  go_enter Tryz.func40, Tryz.ntmps40
  go_upto_region 1 with fail
  rw [← HW.out]
  go_wp2_with (at_builtin; refine Stopped.out ?_)
  refine ⟨?_⟩
  have hkW := HR.out.2.2.1
  have kA : KB F0 W (W.alloc (.cells #[.int .i64 (p : Nat)] 3)) := (KB.refl _ _).alloc _
  have hnb := alloc_new W (.cells #[.int .i64 (p : Nat)] 3)
  obtain ⟨W2, hW2⟩ : ∃ W2, W2 = W.alloc (.cells #[.int .i64 (p : Nat)] 3) := ⟨_, rfl⟩
  rw [← hW2] at kA hnb ⊢
  have hown := own_kb HR.out.1.own kA (fun _ _ x => x)
  have hX := kA.heap (fun x => x) HR.out.1.cell
  rw [← HR.out.2.1] at hown
  have HA := Lib.hid (And.intro kA (And.intro hown hX))
  have hs2 := kA.size
  clear kA hW2
  refine app1 40 3 w00.heap.size (.int .i64 (p : Nat)) Tryz.infoIntV Tryz.underlying40 rfl hown rfl rfl rfl rfl (blk_cell hnb 0) rfl (by unfold maxLen; omega) (by omega) (by omega) ?_
  intro v' w' hown' hgr
  have hne : ∀ {u : Value} {n : Nat} {ys : List Value} {V : World} {g : Nat} {c : Array Value}, V.heap[g]? = some (.cells c 40 (0, 0)) → V.ownsRow w00.heap.size 3 1 u n ys → u.ownBlock ≠ some g := fun h1 h2 e => by
    obtain ⟨c1, h3, -⟩ := own_block h2 e
    rw [h1] at h3
    simp only [Option.some.injEq, Obj.cells.injEq] at h3
    exact absurd h3.2.1 (by decide)
  have hX2 : w'.heap[X]? = some (.cells #[v] 40 (0, 0)) := by
    rw [hgr.block X (heap_lt hX) (fun e => hne hX hown e.symm)]; exact hX
  have y0 : w'.cell? ⟨X, 0, none⟩ = some v := blk_cell hX2 0
  have y0f := blk_frozen hX2 0
  have kF : KB F0 w00 w' := (HR.out.1.kb.trans HA.out.1).grown hgr (fun k e h => by
    obtain ⟨c1, h1, h2⟩ := own_block hown e
    omega)
  obtain ⟨va, vc, e2⟩ : ∃ a c, v' = .slice a (N + 1) c := by
    obtain ⟨a, c, e, -⟩ := own_shape hown'
    exact ⟨a, c, e⟩
  subst e2
  have HE : Hid (RegAt w00 (w'.setCell ⟨X, 0, none⟩ (.slice va (N + 1) vc)) X (xs ++ [(p : Int)]) (.slice va (N + 1) vc)) := Lib.hid (by
    refine ⟨kF.setCell (p := ⟨X, 0, none⟩) (fun (h : X < w00.heap.size) => absurd h (by have := HR.out.1.lo; omega)) _, HR.out.1.lo, setCell_blk (i := 0) hX2 _, ?_⟩
    have h1 := own_kb hown' (kb_set w' X 0 (.slice va (N + 1) vc)) (fun g e1 e2 => by subst e2; exact hne hX2 hown' e1)
    rw [List.length_append, show intsV (xs ++ [(p : Int)]) = intsV xs ++ [.int .i64 p] by simp [intsV], ← HR.out.2.1]
    exact h1)
  have HS : Hid (StepOk (BxP X) w0 (w'.setCell ⟨X, 0, none⟩ (.slice va (N + 1) vc))) := Lib.hid (by
    have h0 := HR.out.2.2.2
    have hsz := hkW.size
    have k1 : KB (BxP X w0) w0 W2 := (hkW.trans HA.out.1).mono (fun _ _ x => x.elim)
    have hrow : ∀ k, v.ownBlock = some k → k < w0.heap.size → ∃ cs, w0.heap[k]? = some (.cells cs 3 (0, 0)) := fun k e _ => by
      obtain ⟨c1, h1, -⟩ := own_block h0.own e
      exact ⟨c1, h1⟩
    have k2 : KB (BxP X w0) w0 w' := k1.grown hgr (fun k e h => Or.inr (hrow k e h))
    refine ⟨k2.setCell (p := ⟨X, 0, none⟩) (fun _ => Or.inl rfl) _, fun k hk => ?_⟩
    rcases hk with rfl | ⟨cs, hk⟩
    · exact Or.inl (Or.inl rfl)
    by_cases hlt : k < w0.heap.size
    · refine Or.inl ?_
      by_cases hkX : k = X
      · exact Or.inl hkX
      · have e3 := (kb_set w' X 0 (.slice va (N + 1) vc)).block k (by have := k2.size; omega) hkX
        rw [e3] at hk
        by_cases hko : v.ownBlock = some k
        · exact Or.inr (hrow k hko hlt)
        · refine Or.inr ⟨cs, ?_⟩
          rw [hgr.block k (by have := k1.size; omega) (fun e => hko e.symm)] at hk
          rw [(hkW.trans HA.out.1).block k hlt (fun x => x)] at hk
          exact hk
    · exact Or.inr (by omega))
  clear hown' hgr hX2 x0 kF hown hX hnb hkW
  go_wp2_with fail
  go_end0
  exact ⟨rfl, ⟨_, by rw [HE1.out]; exact HE.out⟩, HS.out⟩
end Go.Proofs.YtaeppaaolkcbbaaGreatDoor

namespace Go.Proofs.YtaeppaaolkcbbaaGreatDoor
open Go.RowKit

/-- Where the boxes in a type lie. -/
def bxN (S : List (List Ty)) (t : Ty) : List Int := atsI (bxF S 34 t 0)
theorem bxN_len (S : List (List Ty)) (hg : GoodS S) (t : Ty) (h : lookB S.length 48 t = true) : (bxN S t).length ≤ 16 := by
  unfold bxN atsI
  rw [List.length_map]
  exact Nat.le_trans (bxF_len S 34 t 0) (hg.w16 34 t (hg.fin t) (look_inT h))
/-- What layout.Boxes leaves: the numbers in a slice of the call's own. -/
def BoxesEnd (S : List (List Ty)) (t : Ty) (w : World) (e : Ending) (w' : World) : Prop :=
  (MayT S t ∧ ∃ v, e = .returned (.tuple #[v, .int .i64 0]) ∧ w'.ownsRow w.heap.size 3 1 v (bxN S t).length (intsV (bxN S t)) ∧ KB F0 w w') ∨
  (¬ MayT S t ∧ e = .returned (.tuple #[.slice none 0 0, .int .i64 2]) ∧ KB F0 w w')
set_option maxRecDepth 100000 in
set_option maxHeartbeats 16000000 in
theorem lyBoxes_any (S : List (List Ty)) (hn : S.length ≤ 1000000) (hl : ∀ i, (fds S i).length ≤ 1000000) (a : Option Addr) (c : Nat) (hc : S.length ≤ c) (t : Ty) (ta : Option Addr) (tc : Nat) (w : World) (h : StsAt 49 w a S) (ht : TyAt 49 w t ta tc) :
    Calls Tryz.prog 15 #[.slice a S.length c, tyV t ta tc] w (BoxesEnd S t w) := by
  obtain ⟨w0, rfl⟩ : ∃ w0, w0 = w := ⟨_, rfl⟩
  obtain ⟨W, hW⟩ : ∃ W, W = w0.alloc (.cells #[.int .u8 t.k, .bool t.m, .int .i64 t.r, .int .i64 t.s, .slice ta t.of.length tc] 26) := ⟨_, rfl⟩
  obtain ⟨kb, hb⟩ := boxTy w0 t ta tc
  rw [← hW] at kb hb
  have MY := Lib.hid (tyMay_any S hn hl a c hc t ta tc W (h.kbF kb) (ht.kbF kb))
  have HW := Lib.hid hW
  have HB := Lib.hid (And.intro kb (And.intro hb (And.intro h ht)))
  obtain ⟨c0, c1, c2, c3, c4⟩ := TyCells.of_block hb
  clear kb hb hW h ht hn hl hc
  unfold tyV at MY ⊢
  go_enter Tryz.func15, Tryz.ntmps15
  go_upto_region 1 with fail
  rw [← HW.out]
  go_wp2_with fail
  refine MY.out.mono ?_
  rintro e w2 ⟨ok, rfl, hok, k2⟩
  have hb2 := k2.heap (fun x => x) HB.out.2.1
  have HK := Lib.hid (And.intro (HB.out.1.trans k2) hok)
  clear k2 hok c0 c1 c2 c3 c4
  have d0 := blk_cell hb2 0
  have d1 := blk_cell hb2 1
  have d2 := blk_cell hb2 2
  have d3 := blk_cell hb2 3
  have d4 := blk_cell hb2 4
  simp at d0 d1 d2 d3 d4
  clear hb2
  cases ok
  case false =>
    have hno : ¬ MayT S t := fun hm => by have := HK.out.2.2 hm; cases this
    go_wp2_with fail
    go_ret2
    exact Or.inr ⟨hno, rfl, HK.out.1⟩
  case true =>
    have hm : MayT S t := HK.out.2.1 rfl
    obtain ⟨W3, hW3⟩ : ∃ W3, W3 = w2.alloc (.cells #[.slice none 0 0] 40) := ⟨_, rfl⟩
    have k3 : KB F0 w2 W3 := by rw [hW3]; exact (KB.refl _ _).alloc _
    have hX : W3.heap[w2.heap.size]? = some (.cells #[.slice none 0 0] 40 (0, 0)) := by rw [hW3]; exact alloc_new _ _
    have k03 := HK.out.1.trans k3
    have hI0 : BxInv w0 w2.heap.size [] W3 := ⟨_, k03, HK.out.1.size, hX, World.ownsRow_nil _ _ _ _⟩
    have hen : ∀ args W, (callFunc 40 args).run Tryz.prog W = .ok (.enter 40 args) W := fun args W => by
      have h1 : Tryz.prog.funcs[40]? = some Tryz.f40 := Tryz.func40
      simp [callFunc, h1, show Tryz.f40.name ≠ "runtime.NumGoroutine" by decide, show Tryz.f40.body ≠ none from fun e => by cases e]
    have BX := Lib.hid (lyboxes_any hm.1 a c w0 HB.out.2.2.1 40 #[.pointer (some ⟨w2.heap.size, 0, none⟩)] (BxP w2.heap.size) (BxInv w0 w2.heap.size) hen (bx_met w0 w2.heap.size) (bx_step S w0 w2.heap.size) 34 t ta tc 0 [] W3
      (hm.1.fin t) hm.2 (by have := hm.1.w16 34 t (hm.1.fin t) (look_inT hm.2); omega) (by have := hm.1.w16 34 t (hm.1.fin t) (look_inT hm.2); simp; omega) HB.out.2.2.2 hI0)
    have HM := Lib.hid hm
    have HW3 := Lib.hid hW3
    have f0 := k3.cell (p := ⟨w0.heap.size, 0, none⟩) (fun x => x) d0
    have f1 := k3.cell (p := ⟨w0.heap.size, 1, none⟩) (fun x => x) d1
    have f2 := k3.cell (p := ⟨w0.heap.size, 2, none⟩) (fun x => x) d2
    have f3 := k3.cell (p := ⟨w0.heap.size, 3, none⟩) (fun x => x) d3
    have f4 := k3.cell (p := ⟨w0.heap.size, 4, none⟩) (fun x => x) d4
    clear k3 hX k03 hI0 hen hW3 hm
    unfold tyV at BX
    go_upto_region 4 with fail
    rw [← HW3.out]
    clear d0 d1 d2 d3 d4
    go_wp2_with fail
    refine BX.out.mono ?_
    rintro e w4 ⟨rfl, ⟨v, hR⟩, -⟩
    have hX4 := blk_cell hR.cell 0
    have HR := Lib.hid hR
    clear hR f0 f1 f2 f3 f4
    simp at hX4
    go_wp2_with fail
    go_ret2
    refine Or.inl ⟨HM.out, v, rfl, ?_, HR.out.kb⟩
    have := HR.out.own
    have e1 : atsI ([] ++ bxF S 34 t 0) = bxN S t := rfl
    rw [e1] at this
    exact this
end Go.Proofs.YtaeppaaolkcbbaaGreatDoor

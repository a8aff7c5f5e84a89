/- Lists of places in memory of their own; place.Prefixes. -/
import Derived.Test.YtpigppghcghpbaaGreatDoorPlH
import Derived.Test.YtpigppghcghpbaaGreatDoorMg04
namespace Go.Proofs.YtpigppghcghpbaaGreatDoor
open Go.RowKit

def cellsP (x : Int) (vs : List Value) : List Value := vs.flatMap fun v => [.int .i64 x, v]
theorem cellsP_app (x : Int) (a b : List Value) : cellsP x (a ++ b) = cellsP x a ++ cellsP x b := by simp [cellsP]
theorem cellsP_get (x : Int) : ∀ (vs : List Value) (k : Nat), k < vs.length → (cellsP x vs)[k * 2]? = some (.int .i64 x) ∧ (cellsP x vs)[k * 2 + 1]? = some (vs.getD k undef) := by
  intro vs
  induction vs with
  | nil => intro k hk; simp at hk
  | cons v vs ih =>
    intro k hk
    cases k with
    | zero => simp [cellsP]
    | succ k =>
      have := ih k (by simpa using hk)
      unfold cellsP at this ⊢
      rw [List.flatMap_cons, show (k + 1) * 2 = k * 2 + 2 by omega]
      simpa using this
theorem own_growns {w w' : World} {B : Nat} {e : TypeId} {size : Nat} {v : Value} {n : Nat} {xs : List Value} (h : w.ownsRow B e size v n xs) {row : Option Nat} (hg : w.grownBy w' row) (hr : ∀ g, v.ownBlock = some g → row ≠ some g) : w'.ownsRow B e size v n xs := by
  obtain ⟨h1, h2⟩ := h
  refine ⟨h1, ?_⟩
  rcases h2 with h2 | ⟨g, cap, cur, hv, hb, hh, r⟩
  · exact Or.inl h2
  · refine Or.inr ⟨g, cap, cur, hv, hb, ?_, r⟩
    rw [hg.block g (heap_lt hh) (fun e => hr g (by rw [hv]; rfl) e.symm)]
    exact hh
theorem own_lenP {w : World} {B z n : Nat} {e : TypeId} {v : Value} {xs : List Value} (h : w.ownsRow B e z v n xs) : ∃ a c, v = .slice a n c := by
  rcases h.2 with ⟨rfl, h0⟩ | ⟨g, cap, cur, rfl, -⟩
  · exact ⟨none, 0, by rw [h0]⟩
  · exact ⟨_, _, rfl⟩
/-- Places of one local, in memory of their own from block B on, each path in a block of its own. -/
structure OwnPls (w : World) (B : Nat) (v : Value) (x : Int) (l : List (List Int)) (vs : List Value) : Prop where
  len : vs.length = l.length
  row : w.ownsRow B 26 2 v l.length (cellsP x vs)
  paths : ∀ k, k < l.length → OwnI w B (vs.getD k undef) (l.getD k [])
  apart : ∀ i j, i < j → j < l.length → ∀ g, (vs.getD i undef).ownBlock = some g → (vs.getD j undef).ownBlock ≠ some g
theorem ownPls_nil (w : World) (B : Nat) (x : Int) : OwnPls w B (.slice none 0 0) x [] [] := ⟨rfl, World.ownsRow_nil _ _ _ _, fun k hk => by simp at hk, fun i j _ hk => by simp at hk⟩
theorem OwnPls.kb {w w' : World} {B : Nat} {v : Value} {x : Int} {l : List (List Int)} {vs : List Value} (h : OwnPls w B v x l vs) {S : Nat → Prop} (hk : KB S w w') (hS : ∀ g, B ≤ g → g < w.heap.size → ¬ S g) : OwnPls w' B v x l vs :=
  ⟨h.len, own_kb h.row hk (fun g e => hS g (h.row.lt g e).1 (h.row.lt g e).2), fun k hk' => (h.paths k hk').kb hk (fun g e => hS g ((h.paths k hk').lt g e).1 ((h.paths k hk').lt g e).2), h.apart⟩
theorem OwnPls.kbF {w w' : World} {B : Nat} {v : Value} {x : Int} {l : List (List Int)} {vs : List Value} (h : OwnPls w B v x l vs) (hk : KB F0 w w') : OwnPls w' B v x l vs := h.kb hk (fun _ _ _ x => x)
theorem OwnPls.base {w : World} {B B' : Nat} {v : Value} {x : Int} {l : List (List Int)} {vs : List Value} (h : OwnPls w B v x l vs) (hb : B' ≤ B) : OwnPls w B' v x l vs :=
  ⟨h.len, own_base h.row hb, fun k hk => own_base (h.paths k hk) hb, h.apart⟩
theorem OwnPls.push {w w' : World} {B Bu : Nat} {v v' u : Value} {x : Int} {l : List (List Int)} {t : List Int} {vs : List Value} (h : OwnPls w B v x l vs) (hu : OwnI w Bu u t) (hB : B ≤ Bu)
    (hlt : ∀ k, k < l.length → ∀ g, (vs.getD k undef).ownBlock = some g → g < Bu)
    (h' : w'.ownsRow B 26 2 v' (l.length + 1) (cellsP x vs ++ [.int .i64 x, u])) (hg : w.grownBy w' v.ownBlock) : OwnPls w' B v' x (l ++ [t]) (vs ++ [u]) := by
  have hne : ∀ {B2 : Nat} {u : Value} {xs : List Int}, OwnI w B2 u xs → OwnI w' B2 u xs := fun hu => own_growns hu hg (fun g e1 e2 => by
    obtain ⟨c1, h1, -⟩ := own_block hu e1
    obtain ⟨c2, h2, -⟩ := own_block h.row e2
    rw [h1] at h2
    simp only [Option.some.injEq, Obj.cells.injEq] at h2
    exact absurd h2.2.1 (by decide))
  have g1 : ∀ k, k < l.length → (vs ++ [u]).getD k undef = vs.getD k undef := fun k hk => by
    simp [List.getD_eq_getElem?_getD, List.getElem?_append_left (show k < vs.length by rw [h.len]; exact hk)]
  have g2 : (vs ++ [u]).getD l.length undef = u := by simp [List.getD_eq_getElem?_getD, ← h.len]
  refine ⟨by simp [h.len], ?_, ?_, ?_⟩
  · rw [List.length_append, cellsP_app]; exact h'
  · intro k hk
    rw [List.length_append, List.length_singleton] at hk
    by_cases hl : k < l.length
    · rw [g1 k hl, show (l ++ [t]).getD k [] = l.getD k [] by simp [List.getD_eq_getElem?_getD, List.getElem?_append_left hl]]
      exact hne (h.paths k hl)
    · obtain rfl : k = l.length := by omega
      rw [g2, show (l ++ [t]).getD l.length [] = t by simp [List.getD_eq_getElem?_getD]]
      exact own_base (hne hu) hB
  · intro i j hij hj g e1
    rw [List.length_append, List.length_singleton] at hj
    rw [g1 i (by omega)] at e1
    by_cases hl : j < l.length
    · rw [g1 j hl]; exact h.apart i j hij hl g e1
    · obtain rfl : j = l.length := by omega
      rw [g2]
      intro e2
      have a1 := hlt i hij g e1
      have a2 := (hu.lt g e2).1
      omega
theorem OwnPls.at_ {w : World} {B : Nat} {v : Value} {x : Int} {l : List (List Int)} {vs : List Value} (h : OwnPls w B v x l vs) (hs : ∀ k, k < l.length → (l.getD k []).length ≤ 100000) : ∃ a c, v = .slice a l.length c ∧ l.length ≤ c ∧ c ≤ maxLen ∧
    ∀ k, k < l.length → ∃ g ta tc, a = some ⟨g, 0, none⟩ ∧ B ≤ g ∧ vs.getD k undef = .slice ta (l.getD k []).length tc ∧ w.cell? ⟨g, k * 2, none⟩ = some (.int .i64 x) ∧ w.cell? ⟨g, k * 2 + 1, none⟩ = some (.slice ta (l.getD k []).length tc) ∧ PlAt w ⟨x, l.getD k []⟩ ta tc := by
  obtain ⟨a, c, h1, h2, h3, h4, -⟩ := own_shape h.row
  refine ⟨a, c, h1, h2, h3, fun k hk => ?_⟩
  obtain ⟨g, e, hb, c0⟩ := h4 (k * 2) (by omega)
  obtain ⟨g', e', -, c1⟩ := h4 (k * 2 + 1) (by omega)
  rw [e] at e'
  simp only [Option.some.injEq, Addr.mk.injEq, and_true] at e'
  subst e'
  obtain ⟨p0, p1⟩ := cellsP_get x vs k (by rw [h.len]; exact hk)
  obtain ⟨ta, tc, hv, hn, -, hi⟩ := (h.paths k hk).at
  rw [hv] at p1
  exact ⟨g, ta, tc, e, hb, hv, by rw [c0, p0], by rw [c1, p1], hi, hn, hs k hk⟩
def presK (xs : List Int) (k : Nat) : List (List Int) := (List.range k).map fun n => xs.take n
theorem presK_len (xs : List Int) (k : Nat) : (presK xs k).length = k := by simp [presK]
theorem presK_succ (xs : List Int) (k : Nat) : presK xs (k + 1) = presK xs k ++ [xs.take k] := by simp [presK, List.range_succ]
theorem presK_get {xs : List Int} {k i : Nat} (h : i < k) : (presK xs k).getD i [] = xs.take i := by simp [presK, List.getD_eq_getElem?_getD, h]
def presL (xs : List Int) : List (List Int) := presK xs (xs.length + 1)
theorem Tryz.underlying44' : Tryz.prog.underlying 44 = some (.slice 26) := by kernel_rfl

set_option maxRecDepth 100000 in
set_option maxHeartbeats 8000000 in
theorem pres_any (p : Pl) (a : Option Addr) (c : Nat) (w : World) (h : PlAt w p a c) :
    Calls Tryz.prog 24 #[plV p a c] w fun e w' => ∃ v vs, e = .returned v ∧ OwnPls w' w.heap.size v p.loc (presL p.path) vs ∧ KB F0 w w' := by
  obtain ⟨w0, rfl⟩ : ∃ w0, w0 = w := ⟨_, rfl⟩
  have hsm := h.small
  have CUT := Lib.hid (fun (n : Nat) (hn : n ≤ p.path.length) (W : World) (hk : KB F0 w0 W) => cut_any p n hn a c W (h.kbF hk))
  obtain ⟨x, xs⟩ := p
  unfold plV at CUT ⊢
  simp only at CUT hsm ⊢
  obtain ⟨N, hN⟩ : ∃ N, N = xs.length := ⟨_, rfl⟩
  have HN := Lib.hid hN
  rw [← hN] at CUT hsm ⊢
  have hB := (KB.refl F0 w0).alloc (.cells #[.int .i64 x, .slice a N c] 26)
  obtain ⟨W1, hW1⟩ : ∃ W1, W1 = w0.alloc (.cells #[.int .i64 x, .slice a N c] 26) := ⟨_, rfl⟩
  have hb1 : W1.heap[w0.heap.size]? = some (.cells #[.int .i64 x, .slice a N c] 26 (0, 0)) := by rw [hW1]; exact alloc_new _ _
  rw [← hW1] at hB
  have x1 : W1.cell? ⟨w0.heap.size, 1, none⟩ = some (.slice a N c) := blk_cell hb1 1
  have HB := Lib.hid (And.intro hB hb1)
  have HW := Lib.hid hW1
  rw [hW1] at x1
  have hw : IntKind.i64.wrap ((N : Int) + 1) = ((N + 1 : Nat) : Int) := by rw [w64 (by omega) (by omega)]; omega
  clear h hN hW1 hb1 hB
  go_enter Tryz.func24, Tryz.ntmps24
  go_wp2_with fail
  rw [← HW.out]
  clear x1
  go_loopw [3, 9] (fun lv kv wr => ∃ k vs, k ≤ N + 1 ∧ kv = .int .i64 (k : Nat) ∧ Hid (OwnPls wr W1.heap.size lv x (presK xs k) vs ∧ KB F0 W1 wr)) (fun _ kv _ => N + 1 - (intOf kv).toNat)
  case atStart => exact ⟨0, [], by omega, rfl, Lib.hid ⟨ownPls_nil _ _ _, KB.refl _ _⟩⟩
  case round =>
    obtain ⟨k, vs, hk, rfl, hst⟩ := hrel
    by_cases hlt : k < N + 1
    · have d1 : decide ((k : Int) < ((N + 1 : Nat) : Int)) = true := decide_eq_true (by omega)
      have hkN : (k : Int) < ((N + 1 : Nat) : Int) := by omega
      have bx := hst.out.2.heap (fun x => x) HB.out.2
      have x0 : wr.cell? ⟨w0.heap.size, 0, none⟩ = some (.int .i64 x) := blk_cell bx 0
      have x1 : wr.cell? ⟨w0.heap.size, 1, none⟩ = some (.slice a N c) := blk_cell bx 1
      have hwk : IntKind.i64.wrap ((k : Int) + 1) = ((k + 1 : Nat) : Int) := by rw [w64 (by omega) (by omega)]; omega
      clear bx
      go_wp2_with fail
      refine (CUT.out k (by omega) _ (HB.out.1.trans hst.out.2)).mono ?_
      rintro e w2 ⟨u, rfl, hu, k2⟩
      have hul : (xs.take k).length = k := by rw [List.length_take, ← HN.out]; omega
      obtain ⟨ua, uc, rfl, -, -, -⟩ := hu.at
      rw [hul] at hu ⊢
      have Hu := Lib.hid (And.intro hu k2)
      have hown := hst.out.1
      obtain ⟨la, lc, rfl⟩ := own_lenP hown.row
      rw [presK_len] at *
      clear hu k2 x0 x1
      go_wp2_with (at_builtin; refine Stopped.out ?_)
      refine ⟨?_⟩
      obtain ⟨nb, hnb⟩ : ∃ nb, nb = w2.heap.size := ⟨_, rfl⟩
      have ka := (KB.refl F0 w2).alloc (.cells #[.int .i64 x, .slice ua k uc] 26)
      have hnew := alloc_new w2 (.cells #[.int .i64 x, .slice ua k uc] 26)
      have hown2 := hown.kbF (Hu.out.2.trans ka)
      have hrow := hown2.row
      rw [presK_len] at hrow
      refine appRow 44 26 W1.heap.size [.int .i64 x, .slice ua k uc] Tryz.infoPlace Tryz.underlying44' (by decide) (by decide) hrow rfl rfl rfl rfl hnew rfl (by intro u hu; simp only [List.mem_cons, List.not_mem_nil, or_false] at hu; rcases hu with rfl | rfl <;> rfl) (by unfold maxLen; omega) (by omega) (hst.out.2.trans (Hu.out.2.trans ka)).size ?_
      intro v' w' hr' hg'
      have HP : Hid (OwnPls w' W1.heap.size v' x (presK xs (k + 1)) (vs ++ [.slice ua k uc]) ∧ KB F0 W1 w') := Lib.hid ⟨by
        rw [presK_succ]
        exact hown2.push (Hu.out.1.kbF ka) hst.out.2.size (fun i hi g e => ((hown.paths i hi).lt g e).2) (by rw [presK_len]; exact hr') hg',
        (hst.out.2.trans (Hu.out.2.trans ka)).grown hg' (own_ge hrow (Nat.le_refl _))⟩
      clear hr' hg' hown hown2 hrow hnew ka
      go_wp2_with fail
      refine ⟨⟨k + 1, _, by omega, by go_num, HP⟩, by simp [intOf]; omega⟩
    · obtain rfl : k = N + 1 := by omega
      have d1 : decide (((N + 1 : Nat) : Int) < ((N + 1 : Nat) : Int)) = false := decide_eq_false (by omega)
      obtain ⟨la, lc, rfl⟩ := own_lenP hst.out.1.row
      go_wp2_with fail
      go_ret
      refine ⟨_, vs, rfl, ?_, HB.out.1.trans hst.out.2⟩
      unfold presL
      rw [← HN.out]
      exact hst.out.1.base HB.out.1.size
end Go.Proofs.YtpigppghcghpbaaGreatDoor

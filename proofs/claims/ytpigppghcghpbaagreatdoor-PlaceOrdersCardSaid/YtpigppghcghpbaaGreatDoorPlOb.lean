/- A list of prefixes in memory of its own, while other lists are written over. -/
import Derived.Test.YtpigppghcghpbaaGreatDoorPlOa
import Derived.Test.YtpigppghcghpbaaGreatDoorPlW
namespace Go.Proofs.YtpigppghcghpbaaGreatDoor
open Go.RowKit

theorem presAt {w : World} {B : Nat} {v : Value} {p : Pl} {vs : List Value} (h : OwnPls w B v p.loc (presL p.path) vs) (hs : p.path.length ≤ 100000) : ∃ g c, v = .slice (some ⟨g, 0, none⟩) (p.path.length + 1) c ∧
    ∀ k, k ≤ p.path.length → ∃ ta tc, w.cell? ⟨g, k * 2, none⟩ = some (.int .i64 p.loc) ∧ w.cell? ⟨g, k * 2 + 1, none⟩ = some (.slice ta k tc) ∧ PlAt w (cutP p k) ta tc := by
  have hl : (presL p.path).length = p.path.length + 1 := presK_len _ _
  have hg : ∀ k, k < p.path.length + 1 → (presL p.path).getD k [] = p.path.take k := fun k hk => presK_get hk
  obtain ⟨a, c, h1, -, -, h4⟩ := h.at_ (fun k hk => by rw [hg k (by rw [← hl]; exact hk), List.length_take]; omega)
  obtain ⟨g, ta, tc, e, -⟩ := h4 0 (by rw [hl]; omega)
  refine ⟨g, c, by rw [h1, e, hl], fun k hk => ?_⟩
  obtain ⟨g2, ta, tc, e2, -, -, c0, c1, hp⟩ := h4 k (by rw [hl]; omega)
  rw [e] at e2
  simp only [Option.some.injEq, Addr.mk.injEq, and_true] at e2
  subst e2
  rw [hg k (by omega)] at c1 hp
  have hlk : (p.path.take k).length = k := by rw [List.length_take]; omega
  rw [hlk] at c1
  exact ⟨ta, tc, c0, c1, hp⟩
theorem plVcut (p : Pl) {k : Nat} (hk : k ≤ p.path.length) (a : Option Addr) (c : Nat) : plV (cutP p k) a c = .agg #[.int .i64 p.loc, .slice a k c] := by
  have hlk : (p.path.take k).length = k := by rw [List.length_take]; omega
  unfold plV cutP
  simp only [hlk]
/-- All prefixes of a place, in blocks from lo on and below hi. -/
structure Pres (w : World) (i : Nat × Nat) (v : Value) (p : Pl) (vs : List Value) : Prop where
  own : OwnPls w i.1 v p.loc (presL p.path) vs
  top : ∀ b, v.ownBlock = some b → b < i.2
  tops : ∀ k, k ≤ p.path.length → ∀ b, (vs.getD k undef).ownBlock = some b → b < i.2
theorem presL_len (xs : List Int) : (presL xs).length = xs.length + 1 := presK_len _ _
theorem presL_get {xs : List Int} {k : Nat} (h : k ≤ xs.length) : (presL xs).getD k [] = xs.take k := presK_get (by omega)
theorem Pres.kb {w w' : World} {i : Nat × Nat} {v : Value} {p : Pl} {vs : List Value} (h : Pres w i v p vs) {S : Nat → Prop} (hk : KB S w w') (hS : ∀ b, i.1 ≤ b → b < i.2 → ¬ S b) : Pres w' i v p vs := by
  refine ⟨⟨h.own.len, own_kb h.own.row hk (fun b e => ?_), fun k hk' => ?_, h.own.apart⟩, h.top, h.tops⟩
  · exact hS b (own_block h.own.row e).choose_spec.2 (h.top b e)
  · have hkl : k ≤ p.path.length := by rw [presL_len] at hk'; omega
    exact (h.own.paths k hk').kb hk (fun b e => hS b (own_block (h.own.paths k hk') e).choose_spec.2 (h.tops k hkl b e))
theorem Pres.kbF {w w' : World} {i : Nat × Nat} {v : Value} {p : Pl} {vs : List Value} (h : Pres w i v p vs) (hk : KB F0 w w') : Pres w' i v p vs := h.kb hk (fun _ _ _ x => x)
/-- The blocks of the first k paths. -/
def PresS (vs : List Value) (k : Nat) (b : Nat) : Prop := ∃ j, j < k ∧ (vs.getD j undef).ownBlock = some b
theorem PresS.in_ {w : World} {i : Nat × Nat} {v : Value} {p : Pl} {vs : List Value} (h : Pres w i v p vs) {k b : Nat} (hk : k ≤ p.path.length + 1) (hs : PresS vs k b) : i.1 ≤ b ∧ b < i.2 := by
  obtain ⟨j, hj, e⟩ := hs
  exact ⟨(own_block (h.own.paths j (by rw [presL_len]; omega)) e).choose_spec.2, h.tops j (by omega) b e⟩
theorem Pres.other {w w' : World} {i i' : Nat × Nat} {v v' : Value} {p p' : Pl} {vs vs' : List Value} (h : Pres w i v p vs) (h' : Pres w i' v' p' vs') (hd : St.Dis i i') {k : Nat} (hk : k ≤ p.path.length + 1) (hkb : KB (PresS vs k) w w') : Pres w' i' v' p' vs' :=
  h'.kb hkb (fun b h1 h2 h3 => by have := PresS.in_ h hk h3; unfold St.Dis at hd; omega)
theorem Pres.at_ {w : World} {i : Nat × Nat} {v : Value} {p : Pl} {vs : List Value} (h : Pres w i v p vs) (hs : p.path.length ≤ 100000) : ∃ g c, v = .slice (some ⟨g, 0, none⟩) (p.path.length + 1) c ∧
    ∀ k, k ≤ p.path.length → ∃ ta tc, w.cell? ⟨g, k * 2, none⟩ = some (.int .i64 p.loc) ∧ w.cell? ⟨g, k * 2 + 1, none⟩ = some (.slice ta k tc) ∧ PlAt w (cutP p k) ta tc := presAt h.own hs
/-- The k-th place, behind the writing over of the earlier ones. -/
theorem Pres.round {w wr : World} {i : Nat × Nat} {g c : Nat} {p : Pl} {vs : List Value} (h : Pres w i (.slice (some ⟨g, 0, none⟩) (p.path.length + 1) c) p vs) (hs : p.path.length ≤ 100000) {k : Nat} (hk : k ≤ p.path.length) (hkb : KB (PresS vs k) w wr) :
    ∃ ta tc, wr.cell? ⟨g, k * 2, none⟩ = some (.int .i64 p.loc) ∧ wr.cell? ⟨g, k * 2 + 1, none⟩ = some (.slice ta k tc) ∧ PlAt wr (cutP p k) ta tc ∧
      wr.ownsRow i.1 56 1 (.slice ta k tc) k (ints (p.path.take k)) ∧ ∀ w', KB (fun b => (Value.slice ta k tc).ownBlock = some b) wr w' → KB (PresS vs (k + 1)) w w' := by
  have hlk : (p.path.take k).length = k := by rw [List.length_take]; omega
  have hpk : k < (presL p.path).length := by rw [presL_len]; omega
  have hrow : wr.ownsRow i.1 26 2 (.slice (some ⟨g, 0, none⟩) (p.path.length + 1) c) (presL p.path).length (cellsP p.loc vs) := own_kb h.own.row hkb (fun b e ⟨j, hj, e2⟩ => by
    obtain ⟨c1, h1, -⟩ := own_block h.own.row e
    obtain ⟨c2, h2, -⟩ := own_block (h.own.paths j (by omega)) e2
    rw [h1] at h2
    simp only [Option.some.injEq, Obj.cells.injEq] at h2
    exact absurd h2.2.1 (by decide))
  have hpath := (h.own.paths k hpk).kb hkb (fun b e ⟨j, hj, e2⟩ => h.own.apart j k hj hpk b e2 e)
  rw [presL_get hk] at hpath
  obtain ⟨ta, tc, e1, h2, h3, h4⟩ := hpath.at
  rw [hlk] at e1 h2
  obtain ⟨p0, p1⟩ := cellsP_get p.loc vs k (by rw [h.own.len]; exact hpk)
  obtain ⟨a, c', e3, -, -, h6, -⟩ := own_shape hrow
  obtain ⟨g1, e4, -, c0⟩ := h6 (k * 2) (by omega)
  obtain ⟨g2, e5, -, c1⟩ := h6 (k * 2 + 1) (by omega)
  simp only [Value.slice.injEq] at e3
  obtain ⟨e3, -, -⟩ := e3
  subst e3
  simp only [Option.some.injEq, Addr.mk.injEq, and_true] at e4 e5
  subst e4 e5
  rw [e1] at p1
  have ho : wr.ownsRow i.1 56 1 (.slice ta k tc) k (ints (p.path.take k)) := by
    unfold OwnI at hpath
    rw [hlk, e1] at hpath
    exact hpath
  refine ⟨ta, tc, by rw [c0, p0], by rw [c1, p1], ⟨h4, by show (p.path.take k).length ≤ tc; omega, by show (p.path.take k).length ≤ 100000; omega⟩, ho, fun w' hw => ?_⟩
  exact (hkb.mono (fun b _ ⟨j, hj, e⟩ => ⟨j, by omega, e⟩)).trans (hw.mono (fun b _ e => ⟨k, by omega, by rw [e1]; exact e⟩))
theorem Pres.capped {w : World} {i : Nat × Nat} {v : Value} {p : Pl} {vs : List Value} (h : Pres w i v p vs) : Pres w (i.1, min i.2 w.heap.size) v p vs :=
  ⟨h.own, fun b e => by have := h.top b e; have := (h.own.row.lt b e).2; show b < min i.2 w.heap.size; omega,
    fun k hk b e => by have := h.tops k hk b e; have := ((h.own.paths k (by rw [presL_len]; omega)).lt b e).2; show b < min i.2 w.heap.size; omega⟩
theorem dis_capped {i j : Nat × Nat} {n : Nat} (h : St.Dis i j) : St.Dis (i.1, min i.2 n) j := by unfold St.Dis at *; simp only; omega
theorem dis_above {a n b c d : Nat} (h : b ≤ c) : St.Dis (a, min n b) (c, d) := by unfold St.Dis; simp only; omega
theorem Pres.lo_le {w : World} {i : Nat × Nat} {g c n : Nat} {p : Pl} {vs : List Value} (h : Pres w i (.slice (some ⟨g, 0, none⟩) n c) p vs) : i.1 ≤ w.heap.size := by
  have := (own_block h.own.row (g := g) rfl).choose_spec.2
  have := (h.own.row.lt g rfl).2
  omega
theorem Pres.old {w w5 wr : World} {i : Nat × Nat} {v : Value} {p : Pl} {vs : List Value} (h : Pres w5 i v p vs) (hB : w.heap.size ≤ i.1) (hk5 : KB F0 w w5) {k : Nat} (hk : k ≤ p.path.length + 1) (hkb : KB (PresS vs k) w5 wr) : KB F0 w wr :=
  hk5.old hkb (fun b hb hs => by have := (PresS.in_ h hk hs).1; omega)
/-- What Prefixes answers. -/
def PlsV (n : Nat) (v : Value) : Prop := ∃ g c, v = .slice (some ⟨g, 0, none⟩) n c
def PlsW (B : Nat) (p : Pl) (v : Value) (i : Nat × Nat) (w : World) : Prop := B ≤ i.1 ∧ ∃ vs, Pres w i v p vs
theorem plsW_kb {B : Nat} {p : Pl} : ∀ v i a b, KB F0 a b → PlsW B p v i a → PlsW B p v i b := fun _ _ _ _ hG ⟨h, vs, hv⟩ => ⟨h, vs, hv.kbF hG⟩
theorem plsV_ex (n : Nat) : ∃ v, PlsV n v := ⟨_, 0, 0, rfl⟩
theorem pres_own {w w' : World} {v : Value} {p : Pl} {vs : List Value} (h : OwnPls w' w.heap.size v p.loc (presL p.path) vs) : Pres w' (w.heap.size, w'.heap.size) v p vs :=
  ⟨h, fun b e => (h.row.lt b e).2, fun k hk b e => ((h.paths k (by rw [presL_len]; omega)).lt b e).2⟩
theorem pres_nw (p : Pl) (a : Option Addr) (c : Nat) (w : World) (h : PlAt w p a c) :
    Calls Tryz.prog 24 #[plV p a c] w fun e w' => ∃ v, e = .returned v ∧ PlsV (p.path.length + 1) v ∧ KB F0 w w' ∧ ∃ vs, Pres w' (w.heap.size, w'.heap.size) v p vs := by
  refine (pres_any p a c w h).mono ?_
  rintro e w' ⟨v, vs, rfl, hv, hk⟩
  have hp := pres_own hv
  obtain ⟨g, d, rfl, -⟩ := hp.at_ h.small
  exact ⟨_, rfl, ⟨g, d, rfl⟩, hk, vs, hp⟩
theorem rpres_nw (p : Pl) (a : Option Addr) (c : Nat) (w : World) (h : PlAt w p a c) :
    Calls Tryz.prog 25 #[plV p a c] w fun e w' => ∃ v, e = .returned v ∧ PlsV (p.path.length + 1) v ∧ KB F0 w w' ∧ ∃ vs, Pres w' (w.heap.size, w'.heap.size) v p vs := by
  refine (rpres_any p a c w h).mono ?_
  rintro e w' ⟨v, vs, rfl, hv, hk⟩
  have hp := pres_own hv
  obtain ⟨g, d, rfl, -⟩ := hp.at_ h.small
  exact ⟨_, rfl, ⟨g, d, rfl⟩, hk, vs, hp⟩
end Go.Proofs.YtpigppghcghpbaaGreatDoor

/- place.walk$1, locals asked. Places, plain: prefixes and their order. A place's value, a place in a world. A place's way among types, plain; what memory holds of it. Types that are not deep: at any depth they lie so. -/
import Derived.Test.YtaeppaaolkcbbaaGreatDoorMg08
import Derived.Test.YtaeppaaolkcbbaaGreatDoorMg00
import Derived.Test.YtaeppaaolkcbbaaGreatDoorMg02
namespace Go.Proofs.YtaeppaaolkcbbaaGreatDoor
open Go.RowKit

def badT (n : Nat) (t : Ty) : Bool := !lookB n 48 t
theorem goodS_fds {S : List (List Ty)} (hg : GoodS S) (i : Nat) : (fds S i).length ≤ 1000000 := by have := len8_of hg.b1 i; omega
set_option maxRecDepth 100000 in
set_option maxHeartbeats 16000000 in
theorem walk1_any (S : List (List Ty)) (hg : GoodS S) (sa : Option Addr) (sc : Nat) (hsc : S.length ≤ sc) (nb : Nat) (t : Ty) (ta : Option Addr) (tc : Nat) (w : World) (hn : w.heap[nb]? = some (.cells #[.slice sa S.length sc] 22 (0, 0))) (hS : StsAt 49 w sa S) (ht : TyAt 49 w t ta tc) :
    Calls Tryz.prog 107 #[tyV t ta tc, .pointer (some ⟨nb, 0, none⟩)] w fun e w' => e = .returned (.bool (badT S.length t)) ∧ KB F0 w w' := by
  obtain ⟨w0, rfl⟩ : ∃ w0, w0 = w := ⟨_, rfl⟩
  obtain ⟨W, hW⟩ : ∃ W, W = w0.alloc (.cells #[.int .u8 t.k, .bool t.m, .int .i64 t.r, .int .i64 t.s, .slice ta t.of.length tc] 26) := ⟨_, rfl⟩
  obtain ⟨kb, hb⟩ := boxTy w0 t ta tc
  rw [← hW] at kb hb
  obtain ⟨c0, c1, c2, c3, c4⟩ := TyCells.of_block hb
  simp only [Nat.zero_add] at c0 c1 c2 c3 c4
  have s0 : W.cell? ⟨nb, 0, none⟩ = some (.slice sa S.length sc) := blk_cell (kb.heap (fun x => x) hn) 0
  have MY := Lib.hid (tyMay_any S (by have := hg.len; omega) (goodS_fds hg) sa sc hsc t ta tc W (hS.kbF kb) (ht.kbF kb))
  have HB : Hid (∀ ok : Bool, (ok = true ↔ MayT S t) → badT S.length t = !ok) := Lib.hid (fun ok h => by
    unfold badT
    congr 1
    rw [Bool.eq_iff_iff, h]
    exact ⟨fun x => ⟨hg, x⟩, fun x => x.2⟩)
  have HW := Lib.hid hW
  have HK := Lib.hid kb
  unfold tyV at MY ⊢
  generalize badT S.length t = q at HB ⊢
  generalize S.length = n at *
  generalize MayT S t = P at *
  clear hS ht hb hW kb hn hg
  obtain ⟨fk, hfk⟩ : ∃ x, x = t.k := ⟨_, rfl⟩
  rw [← hfk] at c0 MY HW ⊢
  obtain ⟨fm, hfm⟩ : ∃ x, x = t.m := ⟨_, rfl⟩
  rw [← hfm] at c1 MY HW ⊢
  obtain ⟨fr, hfr⟩ : ∃ x, x = t.r := ⟨_, rfl⟩
  rw [← hfr] at c2 MY HW ⊢
  obtain ⟨fs, hfs⟩ : ∃ x, x = t.s := ⟨_, rfl⟩
  rw [← hfs] at c3 MY HW ⊢
  obtain ⟨N, hN⟩ : ∃ x, x = t.of.length := ⟨_, rfl⟩
  rw [← hN] at c4 MY HW ⊢
  clear hfk hfm hfr hfs hN
  go_enter Tryz.func107, Tryz.ntmps107
  go_upto_region 1 with fail
  rw [← HW.out]
  go_wp2_with fail
  refine MY.out.mono ?_
  rintro e w1 ⟨ok, rfl, ho, k1⟩
  have HQ := Lib.hid (HB.out ok ho)
  have K1 := Lib.hid k1
  clear k1 ho c0 c1 c2 c3 c4 s0
  go_wp2_with fail
  go_ret
  exact ⟨ret_eq (by rw [HQ.out]; rfl), HK.out.trans K1.out⟩
set_option maxRecDepth 100000 in
set_option maxHeartbeats 16000000 in
theorem ixTys_any (S : List (List Ty)) (hg : GoodS S) (sa : Option Addr) (sc : Nat) (hsc : S.length ≤ sc) (nb : Nat) (l : List Ty) (hl : l.length ≤ 1000000) (a : Option Addr) (c : Nat) (w : World) (hn : w.heap[nb]? = some (.cells #[.slice sa S.length sc] 22 (0, 0))) (hS : StsAt 49 w sa S) (h : TysAt 49 w a l) :
    Calls Tryz.prog 144 #[.slice a l.length c, .func (.func 107) #[] #[.pointer (some ⟨nb, 0, none⟩)]] w fun e w' => ∃ k : Int, e = .returned (.int .i64 k) ∧ decide (0 ≤ k) = l.any (badT S.length) ∧ KB F0 w w' := by
  obtain ⟨w0, rfl⟩ : ∃ w0, w0 = w := ⟨_, rfl⟩
  obtain ⟨L, hL⟩ : ∃ L, L = l.length := ⟨_, rfl⟩
  rw [← hL] at hl ⊢
  have HH := Lib.hid (And.intro hn (And.intro h (And.intro hL hS)))
  clear hn h hL hS
  go_enter Tryz.func144, Tryz.ntmps144
  go_wp2_with fail
  go_loopw [8] (fun kv wr => ∃ k : Nat, k ≤ L ∧ kv = .int .i64 (k : Nat) ∧ Hid (KB F0 w0 wr ∧ ∀ j, j < k → badT S.length (l.getD j ty0) = false)) (fun kv _ => L - (intOf kv).toNat)
  case atStart => exact ⟨0, by omega, rfl, Lib.hid ⟨KB.refl _ _, fun j hj => by omega⟩⟩
  case round =>
    obtain ⟨k, hk, rfl, hst⟩ := hrel
    by_cases hlt : k < L
    · have hkI : (k : Int) < (L : Int) := by omega
      have dk : decide ((k : Int) < (L : Int)) = true := decide_eq_true hkI
      obtain ⟨b, o, a', c', rfl, hty, hta⟩ := HH.out.2.1 k (by rw [← HH.out.2.2.1]; exact hlt)
      obtain ⟨t0, t1, t2, t3, t4⟩ := hty.kbF hst.out.1
      have CL := walk1_any S hg sa sc hsc nb (l.getD k ty0) a' c' wr (hst.out.1.heap (fun x => x) HH.out.1) (HH.out.2.2.2.kbF hst.out.1) (hta.kbF hst.out.1)
      unfold tyV at CL
      obtain ⟨q, hq⟩ : ∃ q, q = badT S.length (l.getD k ty0) := ⟨_, rfl⟩
      rw [← hq] at CL
      have HQ := Lib.hid hq
      have CL2 := Lib.hid CL
      generalize l.getD k ty0 = f at t0 t1 t2 t3 t4 CL2
      clear hty hta CL hq
      generalize f.k = fk at *
      generalize f.m = fm at *
      generalize f.r = fr at *
      generalize f.s = fs at *
      generalize f.of.length = N at *
      go_wp2_with fail
      refine CL2.out.mono ?_
      rintro e w1 ⟨rfl, k1⟩
      have K1 := Lib.hid (hst.out.1.trans k1)
      clear k1 t0 t1 t2 t3 t4
      cases q with
      | true =>
        have HA : Hid (decide ((0 : Int) ≤ (k : Int)) = l.any (badT S.length)) := Lib.hid (by
          rw [any_getD (d := ty0) (by rw [← HH.out.2.2.1]; exact hlt) HQ.out.symm]
          exact decide_eq_true (by omega))
        go_wp2_with fail
        go_ret
        exact ⟨_, rfl, HA.out, K1.out⟩
      | false =>
        have HN : Hid (KB F0 w0 w1 ∧ ∀ j, j < k + 1 → badT S.length (l.getD j ty0) = false) := Lib.hid ⟨K1.out, fun j hj => by
          rcases Nat.lt_or_eq_of_le (Nat.lt_succ_iff.1 hj) with h1 | rfl
          · exact hst.out.2 j h1
          · exact HQ.out.symm⟩
        go_wp2_with fail
        exact ⟨⟨k + 1, by omega, by go_num, HN⟩, by simp [intOf]; omega⟩
    · obtain rfl : k = L := by omega
      have dk : decide ((k : Int) < (k : Int)) = false := decide_eq_false (by omega)
      have HA : Hid (decide ((0 : Int) ≤ -1) = l.any (badT S.length)) := Lib.hid (by
        rw [any_none (d := ty0) (fun i hi => hst.out.2 i (by rw [HH.out.2.2.1]; exact hi))]
        exact decide_eq_false (by omega))
      have HK := Lib.hid hst.out.1
      clear hst
      go_wp2_with fail
      go_ret
      exact ⟨_, rfl, HA.out, HK.out⟩
set_option maxRecDepth 100000 in
set_option maxHeartbeats 16000000 in
theorem ctTys_any (S : List (List Ty)) (hg : GoodS S) (sa : Option Addr) (sc : Nat) (hsc : S.length ≤ sc) (nb : Nat) (l : List Ty) (hl : l.length ≤ 1000000) (a : Option Addr) (c : Nat) (w : World) (hn : w.heap[nb]? = some (.cells #[.slice sa S.length sc] 22 (0, 0))) (hS : StsAt 49 w sa S) (h : TysAt 49 w a l) :
    Calls Tryz.prog 106 #[.slice a l.length c, .func (.func 107) #[] #[.pointer (some ⟨nb, 0, none⟩)]] w fun e w' => e = .returned (.bool (l.any (badT S.length))) ∧ KB F0 w w' := by
  obtain ⟨w0, rfl⟩ : ∃ w0, w0 = w := ⟨_, rfl⟩
  have IX := Lib.hid (ixTys_any S hg sa sc hsc nb l hl a c w0 hn hS h)
  clear hn h hl hS
  generalize l.length = L at IX ⊢
  generalize l.any (badT S.length) = r at IX ⊢
  go_enter Tryz.func106, Tryz.ntmps106
  go_wp2_with fail
  refine IX.out.mono ?_
  rintro e w1 ⟨k, rfl, rfl, hk⟩
  have K := Lib.hid hk
  clear hk IX
  go_wp2_with fail
  all_goals
    go_ret
    exact ⟨ret_eq (by first | rfl | simp_all), K.out⟩
end Go.Proofs.YtaeppaaolkcbbaaGreatDoor

namespace Go.Proofs.YtaeppaaolkcbbaaGreatDoor

structure Pl where
  loc : Int
  path : List Int
end Go.Proofs.YtaeppaaolkcbbaaGreatDoor

namespace Go.Proofs.YtaeppaaolkcbbaaGreatDoor
open Go.RowKit

/-- A place's value. -/
def plV (p : Pl) (a : Option Addr) (c : Nat) : Value := .agg #[.int .i64 p.loc, .slice a p.path.length c]
/-- A place lies in a world. -/
structure PlAt (w : World) (p : Pl) (a : Option Addr) (c : Nat) : Prop where
  ints : IntsAt w a p.path
  cap : p.path.length ≤ c
  small : p.path.length ≤ 100000
theorem PlAt.kbF {w w' : World} {p : Pl} {a : Option Addr} {c : Nat} (h : PlAt w p a c) (hk : KB F0 w w') : PlAt w' p a c := ⟨h.ints.kb hk (fun _ _ _ x => x), h.cap, h.small⟩
theorem kb_new {w0 w : World} (h : KB F0 w0 w) {b : Nat} (hb : w0.heap.size ≤ b) (i : Nat) (v : Value) : KB F0 w0 (w.setCell ⟨b, i, none⟩ v) :=
  h.setCell (p := ⟨b, i, none⟩) (fun hh => by have h1 : b < w0.heap.size := hh; omega) _
/-- Two new blocks. -/
theorem new2 (w0 : World) (cs ds : Array Value) (s t : TypeId) : KB F0 w0 ((w0.alloc (.cells cs s)).alloc (.cells ds t)) ∧
    ((w0.alloc (.cells cs s)).alloc (.cells ds t)).heap[w0.heap.size]? = some (.cells cs s (0, 0)) ∧ ((w0.alloc (.cells cs s)).alloc (.cells ds t)).heap[w0.heap.size + 1]? = some (.cells ds t (0, 0)) := by
  have hs1 : (w0.alloc (.cells cs s)).heap.size = w0.heap.size + 1 := by simp
  exact ⟨((KB.refl _ _).alloc _).alloc _, ((KB.refl F0 _).alloc _).heap (fun x => x) (alloc_new _ _), by rw [← hs1]; exact alloc_new _ _⟩
theorem new3 (w0 : World) (cs ds es : Array Value) (s t u : TypeId) : KB F0 w0 (((w0.alloc (.cells cs s)).alloc (.cells ds t)).alloc (.cells es u)) ∧
    (((w0.alloc (.cells cs s)).alloc (.cells ds t)).alloc (.cells es u)).heap[w0.heap.size]? = some (.cells cs s (0, 0)) ∧ (((w0.alloc (.cells cs s)).alloc (.cells ds t)).alloc (.cells es u)).heap[w0.heap.size + 1]? = some (.cells ds t (0, 0)) ∧
    (((w0.alloc (.cells cs s)).alloc (.cells ds t)).alloc (.cells es u)).heap[w0.heap.size + 1 + 1]? = some (.cells es u (0, 0)) ∧ (((w0.alloc (.cells cs s)).alloc (.cells ds t)).alloc (.cells es u)).heap.size = w0.heap.size + 3 := by
  obtain ⟨k, h1, h2⟩ := new2 w0 cs ds s t
  have hs1 : ((w0.alloc (.cells cs s)).alloc (.cells ds t)).heap.size = w0.heap.size + 1 + 1 := by simp
  exact ⟨k.alloc _, ((KB.refl F0 _).alloc _).heap (fun x => x) h1, ((KB.refl F0 _).alloc _).heap (fun x => x) h2, by rw [← hs1]; exact alloc_new _ _, by simp⟩
def ty0c : Array Value := #[.int .u8 0, .bool false, .int .i64 0, .int .i64 0, .slice none 0 0]
/-- A block of a type laid over, cell by cell. -/
def set5 (w : World) (X : Nat) (v0 v1 v2 v3 v4 : Value) : World := ((((w.setCell ⟨X, 0, none⟩ v0).setCell ⟨X, 1, none⟩ v1).setCell ⟨X, 2, none⟩ v2).setCell ⟨X, 3, none⟩ v3).setCell ⟨X, 4, none⟩ v4
theorem set5_blk {w : World} {X : Nat} {a b c d e : Value} (h : w.heap[X]? = some (.cells #[a, b, c, d, e] 26 (0, 0))) (v0 v1 v2 v3 v4 : Value) : (set5 w X v0 v1 v2 v3 v4).heap[X]? = some (.cells #[v0, v1, v2, v3, v4] 26 (0, 0)) :=
  setCell_blk (i := 4) (setCell_blk (i := 3) (setCell_blk (i := 2) (setCell_blk (i := 1) (setCell_blk (i := 0) h v0) v1) v2) v3) v4
theorem set5_kb (w : World) (X : Nat) (v0 v1 v2 v3 v4 : Value) : KB (· = X) w (set5 w X v0 v1 v2 v3 v4) :=
  ((((kb_set w X 0 v0).trans (kb_set _ X 1 v1)).trans (kb_set _ X 2 v2)).trans (kb_set _ X 3 v3)).trans (kb_set _ X 4 v4)
theorem set5_new {w0 w : World} (h : KB F0 w0 w) {X : Nat} (hX : w0.heap.size ≤ X) (v0 v1 v2 v3 v4 : Value) : KB F0 w0 (set5 w X v0 v1 v2 v3 v4) :=
  kb_new (kb_new (kb_new (kb_new (kb_new h hX 0 _) hX 1 _) hX 2 _) hX 3 _) hX 4 _
theorem arr5 {cs : Array Value} (h : cs.size = 5) : ∃ a b c d e, cs = #[a, b, c, d, e] := by
  obtain ⟨l⟩ := cs
  match l, h with
  | [a, b, c, d, e], _ => exact ⟨a, b, c, d, e, rfl⟩
end Go.Proofs.YtaeppaaolkcbbaaGreatDoor

namespace Go.Proofs.YtaeppaaolkcbbaaGreatDoor
open Go.RowKit

/-- One step: the type, and how it goes. -/
def stepP (S : List (List Ty)) (t : Ty) (k : Int) : Option (Ty × Int) :=
  if k = -1 ∧ t.k = 3 then some (in0 t, 1)
  else if k = -1 ∧ t.k = 4 ∧ t.m = true then some (in0 t, 2)
  else if k = -1 ∧ t.k = 4 then some (in0 t, 3)
  else if t.k ≠ 5 ∨ k < 0 ∨ ((fds S t.s.toNat).length : Int) ≤ k then none
  else some ((fds S t.s.toNat).getD k.toNat ty0, 0)
def walkN (S : List (List Ty)) (t0 : Ty) (path : List Int) : Nat → Option (Ty × List Int)
  | 0 => some (t0, [])
  | i + 1 => (walkN S t0 path i).bind fun x => (stepP S x.1 (path.getD i 0)).map fun y => (y.1, x.2 ++ [y.2])
theorem walkN_none {S : List (List Ty)} {t0 : Ty} {path : List Int} {i j : Nat} (h : walkN S t0 path i = none) (hij : i ≤ j) : walkN S t0 path j = none := by
  induction j with
  | zero => obtain rfl : i = 0 := by omega
            exact h
  | succ j ih =>
    rcases Nat.lt_or_eq_of_le hij with h1 | rfl
    · simp [walkN, ih (by omega)]
    · exact h
theorem walkN_step {S : List (List Ty)} {t0 t u : Ty} {path : List Int} {i : Nat} {hs : List Int} {x : Int} (h : walkN S t0 path i = some (t, hs)) (hk : stepP S t (path.getD i 0) = some (u, x)) : walkN S t0 path (i + 1) = some (u, hs ++ [x]) := by
  simp only [walkN, h, Option.bind_some, hk, Option.map_some]
theorem walkN_stop {S : List (List Ty)} {t0 t : Ty} {path : List Int} {i : Nat} {hs : List Int} (h : walkN S t0 path i = some (t, hs)) (hk : stepP S t (path.getD i 0) = none) : walkN S t0 path (i + 1) = none := by
  simp only [walkN, h, Option.bind_some, hk, Option.map_none]
theorem walkN_len {S : List (List Ty)} {t0 : Ty} {path : List Int} : ∀ {i : Nat} {t : Ty} {hs : List Int}, walkN S t0 path i = some (t, hs) → hs.length = i := by
  intro i
  induction i with
  | zero => intro t hs h; simp only [walkN, Option.some.injEq, Prod.mk.injEq] at h; rw [← h.2]; rfl
  | succ i ih =>
    intro t hs h
    simp only [walkN] at h
    cases hw : walkN S t0 path i with
    | none => rw [hw] at h; cases h
    | some x =>
      rw [hw] at h
      simp only [Option.bind_some, Option.map_eq_some_iff] at h
      obtain ⟨y, -, e⟩ := h
      have := ih (t := x.1) (hs := x.2) hw
      simp only [Prod.mk.injEq] at e
      rw [← e.2, List.length_append, this]; rfl
def MayP (S : List (List Ty)) (L : List Ty) (p : Pl) : Prop := (0 ≤ p.loc ∧ p.loc < (L.length : Int)) ∧ p.path.length ≤ 8 ∧ AllT S L
noncomputable def wkP (S : List (List Ty)) (L : List Ty) (p : Pl) : Option (Ty × List Int) :=
  @ite _ (MayP S L p) (Classical.propDecidable _) (walkN S (L.getD p.loc.toNat ty0) p.path p.path.length) none
theorem wkP_pos {S : List (List Ty)} {L : List Ty} {p : Pl} (h : MayP S L p) : wkP S L p = walkN S (L.getD p.loc.toNat ty0) p.path p.path.length := by unfold wkP; rw [if_pos h]
theorem wkP_neg {S : List (List Ty)} {L : List Ty} {p : Pl} (h : ¬ MayP S L p) : wkP S L p = none := by unfold wkP; rw [if_neg h]
/-- A type on the way: it may be, so deep, and lies in memory. -/
def OnWay (S : List (List Ty)) (w : World) (t : Ty) (ta : Option Addr) (tc : Nat) : Prop := ∃ d, d ≤ 48 ∧ lookB S.length d t = true ∧ TyAt (d + 1) w t ta tc
theorem look_in0 {n d : Nat} {t : Ty} (h : lookB n d t = true) (hk : t.k = 3 ∨ t.k = 4) : ∃ e, d = e + 1 ∧ t.of.length = 1 ∧ lookB n e (in0 t) = true := by
  cases d with
  | zero => cases h
  | succ e =>
    rw [lookB_succ] at h
    refine ⟨e, rfl, ?_⟩
    by_cases h1 : t.of.length = 1
    · rw [decide_eq_true h1, Bool.true_and] at h
      refine ⟨h1, ?_⟩
      unfold lookV at h
      rcases hk with hk | hk <;> simp [hk] at h <;> simp [h]
    · rw [decide_eq_false h1, Bool.false_and] at h
      unfold lookV at h
      rcases hk with hk | hk <;> simp [hk] at h
theorem OnWay.deref {S : List (List Ty)} {w : World} {t : Ty} {ta : Option Addr} {tc : Nat} (h : OnWay S w t ta tc) (hk : t.k = 3 ∨ t.k = 4) :
    ∃ b o a c, ta = some ⟨b, o, none⟩ ∧ t.of.length = 1 ∧ 1 ≤ tc ∧ TyCells w b o (in0 t) a c ∧ OnWay S w (in0 t) a c := by
  obtain ⟨d, hd, hl, ht⟩ := h
  obtain ⟨e, rfl, h1, hi⟩ := look_in0 hl hk
  obtain ⟨b, o, a, c, h2, h3, h4⟩ := ht.in0 (by omega)
  exact ⟨b, o, a, c, h2, h1, by have := ht.1; omega, h3, e, by omega, hi, h4⟩
theorem look_struct {n d : Nat} {t : Ty} (h : lookB n d t = true) (hk : t.k = 5) : 0 ≤ t.s ∧ t.s < (n : Int) := by
  cases d with
  | zero => cases h
  | succ e =>
    rw [lookB_succ] at h
    unfold lookV at h
    simp [hk] at h
    exact ⟨h.2.2.1, h.2.2.2⟩
/-- A struct's field on the way. -/
theorem OnWay.field {S : List (List Ty)} (hg : GoodS S) {w : World} {t : Ty} {ta sa : Option Addr} {tc : Nat} (h : OnWay S w t ta tc) (hS : StsAt 49 w sa S) (hk : t.k = 5) {j : Nat} (hj : j < (fds S t.s.toNat).length) :
    ∃ u sb so fb fo fc a c, t.s = (u : Nat) ∧ u < S.length ∧ sa = some ⟨sb, so, none⟩ ∧ w.cell? ⟨sb, so + u * 2 + 1, none⟩ = some (.slice (some ⟨fb, fo, none⟩) (fds S t.s.toNat).length fc) ∧ (fds S t.s.toNat).length ≤ fc ∧
      TyCells w fb (fo + j * 6 + 1) ((fds S t.s.toNat).getD j ty0) a c ∧ OnWay S w ((fds S t.s.toNat).getD j ty0) a c := by
  obtain ⟨d, hd, hl, ht⟩ := h
  have hs := look_struct hl hk
  obtain ⟨u, hu⟩ : ∃ u : Nat, t.s = u := ⟨t.s.toNat, by omega⟩
  have hun : t.s.toNat = u := by omega
  rw [hun] at hj ⊢
  obtain ⟨sb, so, nm, fa, fc, rfl, -, h1, h2, h3⟩ := hS u (by omega)
  obtain ⟨fb, fo, fnm, a, c, rfl, -, h4, h5⟩ := h3 j hj
  refine ⟨u, sb, so, fb, fo, fc, a, c, hu, by omega, rfl, h1, h2, h4, 48, Nat.le_refl _, ?_, h5⟩
  have hm : (fds S u).getD j ty0 ∈ fds S u := getD_mem hj
  have := (sB1_fds (hg.b1 u (by omega))).2.2 _ hm
  rw [mayB_bare] at this
  simp only [Bool.and_eq_true] at this
  exact this.1
theorem ret_tyI3 {fn : Func} {R : Ending → World → Prop} {a : Act} {w : World} {p q q2 X : Nat} {k : Int} {m : Bool} {r s : Int} {v u u2 : Value} (h : fn.results = #[.cell p 26, .tmp q, .tmp q2]) (hp : a.tmps.getD p undef = .pointer (some ⟨X, 0, none⟩)) (hq : a.tmps.getD q undef = u) (hq2 : a.tmps.getD q2 undef = u2)
    (hc : w.heap[X]? = some (.cells #[.int .u8 k, .bool m, .int .i64 r, .int .i64 s, v] 26 (0, 0))) (hd : a.defers = []) (hR : R (.returned (.tuple #[.agg #[.int .u8 k, .bool m, .int .i64 r, .int .i64 s, v], u, u2])) w) : bodyPost Tryz.prog fn R .ret a w := by
  refine bodyPost_ret (v := .tuple #[.agg #[.int .u8 k, .bool m, .int .i64 r, .int .i64 s, v], u, u2]) ?_ hd hR
  have hp' : a.tmps[p]?.getD undef = .pointer (some ⟨X, 0, none⟩) := by simpa using hp
  have hq' : a.tmps[q]?.getD undef = u := by simpa using hq
  have hq2' : a.tmps[q2]?.getD undef = u2 := by simpa using hq2
  have c0 : w.cell? ⟨X, 0, none⟩ = some (.int .u8 k) := blk_cell hc 0
  have c1 : w.cell? ⟨X, 1, none⟩ = some (.bool m) := blk_cell hc 1
  have c2 : w.cell? ⟨X, 2, none⟩ = some (.int .i64 r) := blk_cell hc 2
  have c3 : w.cell? ⟨X, 3, none⟩ = some (.int .i64 s) := blk_cell hc 3
  have c4 : w.cell? ⟨X, 4, none⟩ = some v := blk_cell hc 4
  simp only [results, h]
  go_simp
/-- What walking a place answers. -/
def WkEnd (S : List (List Ty)) (w : World) (o : Option (Ty × List Int)) (e : Ending) (w' : World) : Prop := KB F0 w w' ∧
  match o with
  | none => e = .returned (.tuple #[.agg #[.int .u8 0, .bool false, .int .i64 0, .int .i64 0, .slice none 0 0], .slice none 0 0, .bool false])
  | some x => ∃ ta tc gv, e = .returned (.tuple #[tyV x.1 ta tc, gv, .bool true]) ∧ OnWay S w x.1 ta tc ∧ w'.ownsRow w.heap.size 3 1 gv x.2.length (intsV x.2)
theorem wkEnd_none {S : List (List Ty)} {w w' : World} {o : Option (Ty × List Int)} (h : o = none) (hk : KB F0 w w') : WkEnd S w o (.returned (.tuple #[.agg #[.int .u8 0, .bool false, .int .i64 0, .int .i64 0, .slice none 0 0], .slice none 0 0, .bool false])) w' := by
  subst h; exact ⟨hk, rfl⟩
/-- The five cells of a type's block. -/
abbrev tyObj (t : Ty) (ta : Option Addr) (tc : Nat) : Obj := .cells #[.int .u8 t.k, .bool t.m, .int .i64 t.r, .int .i64 t.s, .slice ta t.of.length tc] 26
/-- Between two steps: the type so far in the block X, the ways so far. -/
structure WkSt (S : List (List Ty)) (w0 W : World) (X : Nat) (wr : World) (t : Ty) (ta : Option Addr) (tc : Nat) (gv : Value) (hs : List Int) : Prop where
  kb : KB (fun k => k = X) W wr
  cell : wr.heap[X]? = some (tyObj t ta tc)
  on : OnWay S w0 t ta tc
  own : wr.ownsRow W.heap.size 3 1 gv hs.length (intsV hs)
theorem WkSt.kb0 {S : List (List Ty)} {w0 W : World} {X : Nat} {wr : World} {t : Ty} {ta : Option Addr} {tc : Nat} {gv : Value} {hs : List Int} (h : WkSt S w0 W X wr t ta tc gv hs) (hk : KB F0 w0 W) (hX : w0.heap.size ≤ X) : KB F0 w0 wr := hk.oldS h.kb (fun k hk e => by omega)
theorem WkSt.next {S : List (List Ty)} {w0 W : World} {X : Nat} {wr w' : World} {t u : Ty} {ta ua : Option Addr} {tc uc : Nat} {gv gv' : Value} {hs : List Int} {x : Int} (h : WkSt S w0 W X wr t ta tc gv hs) (hX : X < W.heap.size)
    (hon : OnWay S w0 u ua uc) (hown : w'.ownsRow W.heap.size 3 1 gv' (hs.length + 1) (intsV hs ++ [.int .i64 x])) (hgr : (wr.alloc (.cells #[.int .i64 x] 3)).grownBy w' gv.ownBlock) :
    KB (fun k => k = X) W w' ∧ w'.heap[X]? = some (tyObj t ta tc) ∧ WkSt S w0 W X (set5 w' X (.int .u8 u.k) (.bool u.m) (.int .i64 u.r) (.int .i64 u.s) (.slice ua u.of.length uc)) u ua uc gv' (hs ++ [x]) := by
  have ka := (KB.refl F0 wr).alloc (.cells #[.int .i64 x] 3)
  have k1 : KB (fun k => k = X) W (wr.alloc (.cells #[.int .i64 x] 3)) := h.kb.trans (ka.mono (fun _ _ x => x.elim))
  have k2 : KB (fun k => k = X) W w' := k1.grown hgr (fun k e hk => by
    obtain ⟨c1, h1, h2⟩ := own_block h.own e
    omega)
  have hX2 : w'.heap[X]? = some (tyObj t ta tc) := by
    rw [hgr.block X (heap_lt (ka.heap (fun x => x) h.cell)) (fun e => by
      obtain ⟨c1, h1, h2⟩ := own_block h.own e.symm
      omega)]
    exact ka.heap (fun x => x) h.cell
  refine ⟨k2, hX2, ⟨k2.trans (set5_kb w' X _ _ _ _ _), set5_blk hX2 _ _ _ _ _, hon, ?_⟩⟩
  rw [List.length_append, show intsV (hs ++ [x]) = intsV hs ++ [.int .i64 x] by simp [intsV]]
  exact own_kb hown (set5_kb w' X _ _ _ _ _) (fun k e1 e2 => by
    obtain ⟨c1, h1, h2⟩ := own_block hown e1
    omega)
end Go.Proofs.YtaeppaaolkcbbaaGreatDoor

namespace Go.Proofs.YtaeppaaolkcbbaaGreatDoor
open Go.RowKit

/-- So deep at most, at each level one type or none. -/
def deepT : Nat → Ty → Bool
  | 0, t => decide (t.of.length = 0)
  | n + 1, t => decide (t.of.length = 0) || (decide (t.of.length = 1) && deepT n (in0 t))
theorem deep_look {S : Nat} : ∀ {n : Nat} {t : Ty}, lookB S n t = true → deepT n t = true := by
  intro n
  induction n with
  | zero => intro t h; cases h
  | succ n ih =>
    intro t h
    rw [lookB_succ] at h
    unfold deepT
    unfold lookV at h
    by_cases h0 : t.of.length = 0
    · simp [h0]
    · by_cases h1 : t.of.length = 1
      · cases hq : lookB S n (in0 t) with
        | true => simp [h1, ih hq]
        | false => exfalso; revert h; simp only [hq, Bool.and_false]; simp [h1]
      · exfalso; revert h; simp only [h1, decide_false, Bool.false_and]; simp [h0]
theorem deep_le {n : Nat} {t : Ty} (h : deepT n t = true) : t.of.length ≤ 1 := by
  cases n with
  | zero => unfold deepT at h; simp at h; simp [h]
  | succ n => unfold deepT at h; simp at h; rcases h with h | h <;> simp [h]
theorem deep_in {n : Nat} {t : Ty} (h : deepT n t = true) (h1 : t.of.length = 1) : ∃ m, n = m + 1 ∧ deepT m (in0 t) = true := by
  cases n with
  | zero => unfold deepT at h; simp [h1] at h
  | succ n => unfold deepT at h; simp [h1] at h; exact ⟨n, rfl, h⟩
/-- A type of bounded depth that lies so deep lies at any depth. -/
theorem deep_at {w : World} : ∀ {n : Nat} {t : Ty} {a : Option Addr} {c : Nat}, deepT n t = true → TyAt (n + 1) w t a c → ∀ m, TyAt m w t a c := by
  intro n
  induction n with
  | zero =>
    intro t a c h ht m
    cases m with
    | zero => trivial
    | succ m => exact ⟨ht.1, fun i hi => by unfold deepT at h; simp at h; simp [h] at hi⟩
  | succ n ih =>
    intro t a c h ht m
    cases m with
    | zero => trivial
    | succ m =>
      refine ⟨ht.1, fun i hi => ?_⟩
      have hle := deep_le h
      obtain ⟨k, hk, hd⟩ := deep_in h (by omega)
      obtain rfl : i = 0 := by omega
      obtain rfl : n = k := by omega
      obtain ⟨b, o, a', c', e, h1, h2⟩ := ht.2 0 hi
      exact ⟨b, o, a', c', e, h1, ih hd h2 m⟩
theorem look_mono {S R : Nat} (hSR : S ≤ R) : ∀ {n m : Nat} {t : Ty}, n ≤ m → lookB S n t = true → lookB R m t = true := by
  intro n
  induction n with
  | zero => intro m t _ h; cases h
  | succ n ih =>
    intro m t hm h
    cases m with
    | zero => omega
    | succ m =>
      rw [lookB_succ] at h ⊢
      have hq : (decide (t.of.length = 1) && lookB S n (in0 t)) = true → (decide (t.of.length = 1) && lookB R m (in0 t)) = true := by
        simp only [Bool.and_eq_true]; exact fun h => ⟨h.1, ih (by omega) h.2⟩
      revert h hq
      generalize (decide (t.of.length = 1) && lookB S n (in0 t)) = q
      generalize (decide (t.of.length = 1) && lookB R m (in0 t)) = r
      intro h hq
      unfold lookV at *
      split
      · rename_i h1; rw [if_pos h1] at h; exact h
      · rename_i h1; rw [if_neg h1] at h
        split
        · rename_i h2; rw [if_pos h2] at h
          simp only [Bool.and_eq_true, decide_eq_true_eq] at h ⊢
          exact ⟨h.1, h.2.1, h.2.2.1, by omega⟩
        · rename_i h2; rw [if_neg h2] at h
          split
          · rename_i h3; rw [if_pos h3] at h; simp only [Bool.and_eq_true] at h ⊢; exact ⟨h.1, h.2.1, hq h.2.2⟩
          · rename_i h3; rw [if_neg h3] at h
            split
            · rename_i h4; rw [if_pos h4] at h; simp only [Bool.and_eq_true] at h ⊢; exact ⟨h.1, h.2.1, hq h.2.2⟩
            · rename_i h4; rw [if_neg h4] at h; cases h
theorem OnWay.look {S : List (List Ty)} {w : World} {t : Ty} {ta : Option Addr} {tc : Nat} (hg : GoodS S) (h : OnWay S w t ta tc) : lookB 32 48 t = true ∧ ∀ m, TyAt m w t ta tc := by
  obtain ⟨d, hd, hl, ht⟩ := h
  exact ⟨look_mono hg.len hd hl, deep_at (deep_look hl) ht⟩
end Go.Proofs.YtaeppaaolkcbbaaGreatDoor

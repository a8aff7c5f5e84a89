/- layout.Place. -/
import Derived.Test.YtaeppaaolkcbbaaGreatDoorMg40
import Derived.Test.YtaeppaaolkcbbaaGreatDoorMg07
import Derived.Test.YtaeppaaolkcbbaaGreatDoorMg42
import Derived.Test.YtaeppaaolkcbbaaGreatDoorMg43
import Derived.Deep.LoopGhost
namespace Go.Proofs.YtaeppaaolkcbbaaGreatDoor
open Go.RowKit

def goN (S : List (List Ty)) (t0 : Ty) (path : List Int) : Nat → Ty × (Nat × Bool) × List (Nat × Bool)
 | 0 => (t0, (0, false), [])
 | i + 1 => let x := goN S t0 path i
  let k := path.getD i 0
  if k = -1 then (in0 x.1, (0, false), x.2.2 ++ [(x.2.1.1, true)]) else ((fds S x.1.s.toNat).getD k.toNat ty0, (x.2.1.1 + wsum S 34 x.1.s.toNat k.toNat, x.2.1.2), x.2.2)
theorem goN_walk {S : List (List Ty)} {t0 : Ty} {path : List Int} : ∀ {i : Nat} {t : Ty} {hs : List Int}, walkN S t0 path i = some (t, hs) → (goN S t0 path i).1 = t := by
 intro i
 induction i with
 | zero => intro t hs h; simp only [walkN, Option.some.injEq, Prod.mk.injEq] at h; exact h.1
 | succ i ih =>
  intro t hs h
  simp only [walkN] at h
  cases hw : walkN S t0 path i with
  | none => rw [hw] at h; cases h
  | some x =>
   rw [hw] at h
   simp only [Option.bind_some, Option.map_eq_some_iff] at h
   obtain ⟨y, hy, e⟩ := h
   have ht := ih (t := x.1) (hs := x.2) hw
   simp only [Prod.mk.injEq] at e
   obtain ⟨e1, -⟩ := e
   show (if path.getD i 0 = -1 then _ else _ : Ty × (Nat × Bool) × List (Nat × Bool)).1 = t
   unfold stepP at hy
   by_cases hk : path.getD i 0 = -1
   ·rw [if_pos hk, ht]
    simp only [hk, true_and] at hy
    by_cases h3 : x.1.k = 3
    ·rw [if_pos h3] at hy
     rw [← e1, ← Option.some.inj hy]
    ·rw [if_neg h3] at hy
     by_cases h4 : x.1.k = 4 ∧ x.1.m = true
     ·rw [if_pos h4] at hy
      rw [← e1, ← Option.some.inj hy]
     ·rw [if_neg h4] at hy
      by_cases h5 : x.1.k = 4
      ·rw [if_pos h5] at hy
       rw [← e1, ← Option.some.inj hy]
      ·rw [if_neg h5, if_pos (by right; left; decide)] at hy
       cases hy
   ·rw [if_neg hk, ht]
    simp only [hk, false_and, if_false] at hy
    split at hy
    ·cases hy
    ·rw [← e1, ← Option.some.inj hy]
theorem walkN_some {S : List (List Ty)} {t0 : Ty} {path : List Int} {i j : Nat} (h : (walkN S t0 path j).isSome = true) (hij : i ≤ j) : ∃ hs, walkN S t0 path i = some ((goN S t0 path i).1, hs) := by
 cases hw : walkN S t0 path i with
 | none => rw [walkN_none hw hij] at h; cases h
 | some x => exact ⟨x.2, by rw [goN_walk (t := x.1) (hs := x.2) hw]⟩
theorem goN_step {S : List (List Ty)} {t0 : Ty} {path : List Int} {i : Nat} (h : (walkN S t0 path (i + 1)).isSome = true) :
  (path.getD i 0 = -1 ∧ ((goN S t0 path i).1.k = 3 ∨ (goN S t0 path i).1.k = 4)) ∨ (path.getD i 0 ≠ -1 ∧ (goN S t0 path i).1.k = 5 ∧ 0 ≤ path.getD i 0 ∧ path.getD i 0 < ((fds S (goN S t0 path i).1.s.toNat).length : Int)) := by
 obtain ⟨hs, hw⟩ := walkN_some (i := i) h (by omega)
 cases hp : stepP S (goN S t0 path i).1 (path.getD i 0) with
 | none => rw [walkN_stop hw hp] at h; cases h
 | some y =>
  unfold stepP at hp
  by_cases hk : path.getD i 0 = -1
  ·refine Or.inl ⟨hk, ?_⟩
   simp only [hk, true_and] at hp
   by_cases h3 : (goN S t0 path i).1.k = 3
   ·exact Or.inl h3
   ·by_cases h4 : (goN S t0 path i).1.k = 4
    ·exact Or.inr h4
    ·simp [h3, h4] at hp
  ·refine Or.inr ⟨hk, ?_⟩
   simp only [hk, false_and, if_false] at hp
   split at hp
   ·cases hp
   ·rename_i hq
    refine ⟨?_, ?_, ?_⟩ <;> omega
theorem goN_by {S : List (List Ty)} (hg : GoodS S) {t0 : Ty} {path : List Int} {n : Nat} (h : (walkN S t0 path n).isSome = true) : ∀ i, i ≤ n → (goN S t0 path i).2.1.1 ≤ 100000 * i := by
 intro i
 induction i with
 | zero => intro _; exact Nat.le_refl _
 | succ i ih =>
  intro hi
  have hih := ih (by omega)
  show (if path.getD i 0 = -1 then _ else _ : Ty × (Nat × Bool) × List (Nat × Bool)).2.1.1 ≤ _
  split
  ·exact Nat.zero_le _
  ·show (goN S t0 path i).2.1.1 + wsum S 34 _ _ ≤ _
   have hb : ∀ u k, wsum S 34 u k ≤ 100000 := fun u k => by
    refine Nat.le_trans wsum_le ?_
    by_cases hu : u < S.length
    ·have h1 := hg.w16 35 (sTy u) ((hg.fin (sTy u)).le (by omega)) (look_inT (sTy_look hu))
     rw [wF_struct (t := sTy u) rfl] at h1
     have e : (sTy u).s.toNat = u := rfl
     rw [e] at h1
     omega
    ·have e : fds S u = [] := by
      unfold fds
      rw [List.getD_eq_getElem?_getD, List.getElem?_eq_none (by omega)]
      rfl
     unfold wsum
     rw [e]
     simp
   have := hb (goN S t0 path i).1.s.toNat (path.getD i 0).toNat
   omega
def goCs (l : List (Nat × Bool)) : List Value := l.flatMap fun x => [.int .i64 (x.1 : Nat), .bool x.2]
theorem goCs_snoc (l : List (Nat × Bool)) (x : Nat × Bool) : goCs (l ++ [x]) = goCs l ++ [.int .i64 (x.1 : Nat), .bool x.2] := by
 unfold goCs; rw [List.flatMap_append]; rfl
theorem Tryz.infoGo : (Tryz.prog.info? 74).map (fun i => (i.zero, i.size, i.bytes)) = some (some (.agg #[.int .i64 0, .bool false]), 2, 16) := by kernel_rfl
theorem Tryz.underlying68' : Tryz.prog.underlying 68 = some (.slice 74) := by kernel_rfl
theorem list_appG {ops : Array Oper} {rest : List Oper} {o : Oper} {a : Act} {Q : Exit → Act → World → Prop} {w : World} (hgd : o.guard = none) (s x : Operand)
  (ho : o.op = .call { callee := .builtin .append, args := #[s, x], argTypes := #[68, 68] }) (base : Nat) (v : Value) (n : Nat) (us : List Value) (hs : a.eval s = v) (hown : w.ownsRow base 74 2 v n us)
  (nb c : Nat) (cs : List Value) (hx : a.eval x = .slice (some ⟨nb, 0, none⟩) 1 c) (hl : cs.length = 2) (hb : w.heap[nb]? = some (.cells cs.toArray 74 (0, 0))) (h1 : ∀ u ∈ cs, u.oneCell' = true) (hn : n ≤ 1000000) (hbase : base ≤ w.heap.size)
  (h : ∀ g cap w', w'.ownsRow base 74 2 (.slice (some ⟨g, 0, none⟩) (n + 1) cap) (n + 1) (us ++ cs) → KB (fun k => v.ownBlock = some k) w w' → (v.ownBlock = some g ∨ g = w.heap.size) → wpList Tryz.prog ops Q rest (a.put o.dst (.slice (some ⟨g, 0, none⟩) (n + 1) cap)) w') : wpList Tryz.prog ops Q (o :: rest) a w := by
 obtain ⟨i, hi, hz0, hz1, hz2⟩ := info_parts Tryz.infoGo
 exact wpList_append_lies w hgd s x 68 ho base 74 i _ 2 16 Tryz.underlying68' hi hz0 hz1 hz2 (by decide) (by decide) v n us hs hown ⟨nb, 0, none⟩ 1 c cs hx (by rw [hl]) (cells_of_block hb) h1 (by decide) (by unfold maxLen; omega) (by omega) hbase _ rfl
  (fun g cap w' h1 h2 h3 _ => h g cap w' h1 (KB.ofGrownBy h2) h3)
def goF (S : List (List Ty)) (t0 : Ty) (path : List Int) : List (Nat × Bool) := (goN S t0 path path.length).2.2 ++ [(goN S t0 path path.length).2.1]
def PcEnd (S : List (List Ty)) (Fs : List Gr) (u : AskA) (fn : Int) (p : Pl) (w : World) (e : Ending) (w' : World) : Prop :=
 KB F0 w w' ∧ (((∀ (k : Nat) (hk : k < Fs.length), fn = (k : Nat) → UnitP S Fs u.mn → ¬ (wkP S Fs[k].locals p).isSome = true) ∧ e = .returned (.tuple #[.int .i64 0, .slice none 0 0, .int .i64 2])) ∨
  (∃ (k : Nat) (hk : k < Fs.length), fn = (k : Nat) ∧ UnitP S Fs u.mn ∧ (wkP S Fs[k].locals p).isSome = true ∧ ∃ v, e = .returned (.tuple #[.int .i64 ((frF S Fs[k]).1.getD p.loc.toNat 0), v, .int .i64 0]) ∧
   w'.ownsRow w.heap.size 74 2 v (goF S (Fs[k].locals.getD p.loc.toNat ty0) p.path).length (goCs (goF S (Fs[k].locals.getD p.loc.toNat ty0) p.path))))
structure PcSt (S : List (List Ty)) (t0 : Ty) (path : List Int) (w0 : World) (cu cp cG : Array Value) (G Bt Bg i : Nat) (v : Value) (w : World) : Prop where
 kb : KB F0 w0 w
 u : w.heap[w0.heap.size]? = some (.cells cu 49 (0, 0))
 p : w.heap[w0.heap.size + 1]? = some (.cells cp 52 (0, 0))
 at_ : w.heap[G]? = some (.cells cG 3 (0, 0))
 ty : ∃ ua uc, w.heap[Bt]? = some (tyObj (goN S t0 path i).1 ua uc) ∧ OnWay S w0 (goN S t0 path i).1 ua uc
 go : w.heap[Bg]? = some (.cells #[.int .i64 ((goN S t0 path i).2.1.1 : Nat), .bool (goN S t0 path i).2.1.2] 74 (0, 0))
 own : w.ownsRow (Bg + 1) 74 2 v (goN S t0 path i).2.2.length (goCs (goN S t0 path i).2.2)
 b1 : w0.heap.size + 1 < Bt
 b2 : Bt < Bg
 b3 : G < Bt
theorem goN_len {S : List (List Ty)} {t0 : Ty} {path : List Int} : ∀ i, (goN S t0 path i).2.2.length ≤ i := by
 intro i
 induction i with
 | zero => exact Nat.le_refl _
 | succ i ih =>
  show (if path.getD i 0 = -1 then _ else _ : Ty × (Nat × Bool) × List (Nat × Bool)).2.2.length ≤ _
  split
  ·show ((goN S t0 path i).2.2 ++ [_]).length ≤ _
   rw [List.length_append]
   show _ + 1 ≤ _
   omega
  ·exact Nat.le_succ_of_le ih
theorem goN_dn {S : List (List Ty)} {t0 : Ty} {path : List Int} {i : Nat} (h : path.getD i 0 = -1) : goN S t0 path (i + 1) = (in0 (goN S t0 path i).1, (0, false), (goN S t0 path i).2.2 ++ [((goN S t0 path i).2.1.1, true)]) := by
 show (if path.getD i 0 = -1 then _ else _ : Ty × (Nat × Bool) × List (Nat × Bool)) = _
 rw [if_pos h]
theorem goN_fd {S : List (List Ty)} {t0 : Ty} {path : List Int} {i kk : Nat} (h : path.getD i 0 = (kk : Nat)) : goN S t0 path (i + 1) = ((fds S (goN S t0 path i).1.s.toNat).getD kk ty0, ((goN S t0 path i).2.1.1 + wsum S 34 (goN S t0 path i).1.s.toNat kk, (goN S t0 path i).2.1.2), (goN S t0 path i).2.2) := by
 show (if path.getD i 0 = -1 then _ else _ : Ty × (Nat × Bool) × List (Nat × Bool)) = _
 rw [if_neg (by omega), h]
 rfl
theorem PcSt.nextF {S : List (List Ty)} {t0 : Ty} {path : List Int} {w0 : World} {cu cp cG : Array Value} {G Bt Bg i kk : Nat} {v : Value} {wr w7 : World} (h : PcSt S t0 path w0 cu cp cG G Bt Bg i v wr) (hk : KB F0 wr w7) (hi : path.getD i 0 = (kk : Nat)) {y : Ty} {a : Option Addr} {c n : Nat}
  (hy : y = (fds S (goN S t0 path i).1.s.toNat).getD kk ty0) (hon : OnWay S w0 y a c) (hn : n = (goN S t0 path i).2.1.1 + wsum S 34 (goN S t0 path i).1.s.toNat kk) :
  PcSt S t0 path w0 cu cp cG G Bt Bg (i + 1) v (set5 (w7.setCell ⟨Bg, 0, none⟩ (.int .i64 (n : Nat))) Bt (.int .u8 y.k) (.bool y.m) (.int .i64 y.r) (.int .i64 y.s) (.slice a y.of.length c)) := by
 have k1 := kb_set w7 Bg 0 (.int .i64 (n : Nat))
 have k2 := set5_kb (w7.setCell ⟨Bg, 0, none⟩ (.int .i64 (n : Nat))) Bt (.int .u8 y.k) (.bool y.m) (.int .i64 y.r) (.int .i64 y.s) (.slice a y.of.length c)
 have hb1 := h.b1
 have hb2 := h.b2
 have hb3 := h.b3
 obtain ⟨ua, uc, hty, -⟩ := h.ty
 have g1 := k1.heap (b := Bt) (by omega) (hk.heap (fun x => x) hty)
 have e := goN_fd (S := S) (t0 := t0) hi
 refine ⟨set5_new (kb_new (h.kb.trans hk) (by omega) 0 _) (by omega) _ _ _ _ _, k2.heap (by omega) (k1.heap (by omega) (hk.heap (fun x => x) h.u)), k2.heap (by omega) (k1.heap (by omega) (hk.heap (fun x => x) h.p)), k2.heap (by omega) (k1.heap (by omega) (hk.heap (fun x => x) h.at_)), ⟨a, c, ?_, ?_⟩, ?_, ?_, hb1, hb2, hb3⟩
 ·rw [e]
  show _ = some (tyObj ((fds S (goN S t0 path i).1.s.toNat).getD kk ty0) a c)
  rw [← hy]
  exact set5_blk g1 _ _ _ _ _
 ·rw [e]
  show OnWay S w0 ((fds S (goN S t0 path i).1.s.toNat).getD kk ty0) a c
  rw [← hy]
  exact hon
 ·rw [e]
  show _ = some (Obj.cells #[Value.int .i64 (((goN S t0 path i).2.1.1 + wsum S 34 (goN S t0 path i).1.s.toNat kk : Nat) : Int), .bool (goN S t0 path i).2.1.2] 74 (0, 0))
  rw [← hn]
  exact k2.heap (by omega) (setCell_blk (i := 0) (hk.heap (fun x => x) h.go) _)
 ·rw [e]
  refine own_kb (own_kb (own_kb h.own hk (fun _ _ x => x)) k1 (fun q hq e => ?_)) k2 (fun q hq e => ?_)
  ·have := (h.own.lt q hq).1; omega
  ·have := (h.own.lt q hq).1; omega
theorem PcSt.nextD {S : List (List Ty)} {t0 : Ty} {path : List Int} {w0 : World} {cu cp cG : Array Value} {G Bt Bg i : Nat} {v v' : Value} {wr w' : World} {cs : Array Value} (h : PcSt S t0 path w0 cu cp cG G Bt Bg i v wr) (hi : path.getD i 0 = -1) {y : Ty} {a : Option Addr} {c : Nat}
  (hy : y = in0 (goN S t0 path i).1) (hon : OnWay S w0 y a c) (hk : KB (fun k => v.ownBlock = some k) ((wr.setCell ⟨Bg, 1, none⟩ (.bool true)).alloc (.cells cs 74)) w')
  (hr : w'.ownsRow (Bg + 1) 74 2 v' ((goN S t0 path i).2.2.length + 1) (goCs (goN S t0 path i).2.2 ++ [.int .i64 ((goN S t0 path i).2.1.1 : Nat), .bool true])) :
  KB F0 w0 w' ∧ (∃ ua uc, w'.heap[Bt]? = some (tyObj (goN S t0 path i).1 ua uc) ∧ wr.heap[Bt]? = some (tyObj (goN S t0 path i).1 ua uc)) ∧ w'.heap[Bg]? = some (.cells #[.int .i64 ((goN S t0 path i).2.1.1 : Nat), .bool true] 74 (0, 0)) ∧
  PcSt S t0 path w0 cu cp cG G Bt Bg (i + 1) v' (set5 ((w'.setCell ⟨Bg, 0, none⟩ (.int .i64 0)).setCell ⟨Bg, 1, none⟩ (.bool false)) Bt (.int .u8 y.k) (.bool y.m) (.int .i64 y.r) (.int .i64 y.s) (.slice a y.of.length c)) := by
 have hb1 := h.b1
 have hb2 := h.b2
 have hb3 := h.b3
 have k1 := kb_set wr Bg 1 (.bool true)
 have k2 := (KB.refl F0 (wr.setCell ⟨Bg, 1, none⟩ (.bool true))).alloc (.cells cs 74)
 have hlo : ∀ q, v.ownBlock = some q → Bg + 1 ≤ q := fun q hq => (h.own.lt q hq).1
 have hlo' : ∀ q, v'.ownBlock = some q → Bg + 1 ≤ q := fun q hq => (hr.lt q hq).1
 have hall : KB (fun k => k = Bg ∨ v.ownBlock = some k) wr w' := ((k1.mono (fun _ _ e => Or.inl e)).trans (k2.mono (fun _ _ x => x.elim))).trans (hk.mono (fun _ _ e => Or.inr e))
 have no : ∀ q, q < Bg → ¬ (q = Bg ∨ v.ownBlock = some q) := fun q hq e => by
  rcases e with e | e
  ·omega
  ·have := hlo q e; omega
 have e := goN_dn (S := S) (t0 := t0) hi
 obtain ⟨ua, uc, hty, -⟩ := h.ty
 have gG : w'.heap[Bg]? = some (.cells #[.int .i64 ((goN S t0 path i).2.1.1 : Nat), .bool true] 74 (0, 0)) := hk.heap (fun e => by have := hlo Bg e; omega) (k2.heap (fun x => x) (setCell_blk (i := 1) h.go _))
 have k3 := kb_set w' Bg 0 (.int .i64 0)
 have k4 := kb_set (w'.setCell ⟨Bg, 0, none⟩ (.int .i64 0)) Bg 1 (.bool false)
 have k5 := set5_kb ((w'.setCell ⟨Bg, 0, none⟩ (.int .i64 0)).setCell ⟨Bg, 1, none⟩ (.bool false)) Bt (.int .u8 y.k) (.bool y.m) (.int .i64 y.r) (.int .i64 y.s) (.slice a y.of.length c)
 have hk0 : KB F0 w0 w' := h.kb.oldS hall (fun q hq e => by
  rcases e with e | e
  ·omega
  ·have := hlo q e; omega)
 refine ⟨hk0, ⟨ua, uc, hall.heap (no Bt hb2) hty, hty⟩, gG, ⟨set5_new (kb_new (kb_new hk0 (by omega) 0 _) (by omega) 1 _) (by omega) _ _ _ _ _, k5.heap (by omega) (k4.heap (by omega) (k3.heap (by omega) (hall.heap (no _ (by omega)) h.u))), k5.heap (by omega) (k4.heap (by omega) (k3.heap (by omega) (hall.heap (no _ (by omega)) h.p))), k5.heap (by omega) (k4.heap (by omega) (k3.heap (by omega) (hall.heap (no _ (by omega)) h.at_))), ⟨a, c, ?_, ?_⟩, ?_, ?_, hb1, hb2, hb3⟩⟩
 ·rw [e]
  show _ = some (tyObj (in0 (goN S t0 path i).1) a c)
  rw [← hy]
  exact set5_blk (k4.heap (by omega) (k3.heap (by omega) (hall.heap (no Bt hb2) hty))) _ _ _ _ _
 ·rw [e]
  show OnWay S w0 (in0 (goN S t0 path i).1) a c
  rw [← hy]
  exact hon
 ·rw [e]
  exact k5.heap (by omega) (setCell_blk (i := 1) (setCell_blk (i := 0) gG _) _)
 ·rw [e]
  show World.ownsRow _ _ _ _ _ ((goN S t0 path i).2.2 ++ [((goN S t0 path i).2.1.1, true)]).length (goCs ((goN S t0 path i).2.2 ++ [((goN S t0 path i).2.1.1, true)]))
  rw [goCs_snoc, List.length_append]
  refine own_kb (own_kb (own_kb hr k3 (fun q hq e => ?_)) k4 (fun q hq e => ?_)) k5 (fun q hq e => ?_)
  all_goals (have := hlo' q hq; omega)
set_option maxRecDepth 100000 in
set_option maxHeartbeats 64000000 in
theorem lyPlace_any (S : List (List Ty)) (Fs : List Gr) (u : AskA) (fn : Int) (p : Pl) (pa : Option Addr) (pc : Nat) (w : World) (hU : UnAt S Fs u w) (hp : PlAt w p pa pc) :
  Calls Tryz.prog 28 #[.agg (unC S Fs u), .int .i64 fn, plV p pa pc] w (PcEnd S Fs u fn p w) := by
 obtain ⟨w0, rfl⟩ : ∃ w0, w0 = w := ⟨_, rfl⟩
 obtain ⟨NF, hNF⟩ : ∃ n, n = Fs.length := ⟨_, rfl⟩
 obtain ⟨NS, hNS⟩ : ∃ n, n = S.length := ⟨_, rfl⟩
 obtain ⟨NP, hNP⟩ : ∃ n, n = p.path.length := ⟨_, rfl⟩
 have HN := Lib.hid (And.intro hNF (And.intro hNS hNP))
 obtain ⟨hk, hb1, hb2⟩ := new2 w0 #[.slice u.sa NS u.sc, .slice u.fa NF u.fc, .int .i64 u.mn] #[.int .i64 p.loc, .slice pa NP pc] 49 52
 obtain ⟨W, hW⟩ : ∃ W, W = ((w0.alloc (.cells #[.slice u.sa NS u.sc, .slice u.fa NF u.fc, .int .i64 u.mn] 49)).alloc (.cells #[.int .i64 p.loc, .slice pa NP pc] 52)) := ⟨_, rfl⟩
 have hsz : W.heap.size = w0.heap.size + 2 := by rw [hW]; simp
 rw [← hW] at hk hb1 hb2
 have FR := Lib.hid (lyFrame_any S Fs u fn W (hU.kbF hk))
 have u0 : W.cell? ⟨w0.heap.size, 0, none⟩ = some (.slice u.sa NS u.sc) := blk_cell hb1 0
 have u1 : W.cell? ⟨w0.heap.size, 1, none⟩ = some (.slice u.fa NF u.fc) := blk_cell hb1 1
 have u2 : W.cell? ⟨w0.heap.size, 2, none⟩ = some (.int .i64 u.mn) := blk_cell hb1 2
 unfold unC at FR ⊢
 unfold plV
 rw [← hNF, ← hNS] at FR ⊢
 rw [← hNP]
 have HW := Lib.hid hW
 have HU := Lib.hid hU
 have HPL := Lib.hid hp
 have HB := Lib.hid (And.intro hk (And.intro hb1 (And.intro hb2 hsz)))
 clear hW hk hb1 hb2 hU hNF hNS hNP hp hsz
 go_enter Tryz.func28, Tryz.ntmps28
 go_upto_region 1 with fail
 rw [← HW.out]
 go_wp2_with fail
 refine FR.out.mono ?_
 rintro e w1 ⟨k1, hE⟩
 have H1 := Lib.hid (And.intro (HB.out.1.trans k1) (And.intro (k1.heap (fun x => x) HB.out.2.1) (k1.heap (fun x => x) HB.out.2.2.1)))
 have HK1 := Lib.hid k1
 clear k1 FR u0 u1 u2
 rcases hE with ⟨hno, rfl⟩ | ⟨k, hkL, rfl, hup, G, hG, rfl, hGh⟩
 ·have HNO : Hid (∀ (k : Nat) (hk : k < Fs.length), fn = (k : Nat) → UnitP S Fs u.mn → ¬ (wkP S Fs[k].locals p).isSome = true) := Lib.hid (fun k hk e hu _ => hno ⟨by omega, by omega, hu⟩)
  clear hno
  as_aux_lemma =>
  go_upto_region 2 with fail
  refine wp_region_rv 15 GK (kindW []) (by kernel_rfl) (by kernel_rfl) (kb_trans _) (kb_refl _) (kb_start _ _) (kindW_mono _ (by intro p hp; cases hp)) ?_
  simp only [pT, pU, pV, pW]
  iterate 3 (refine rv_det (by kernel_rfl) rfl (by intro w hG hH; go_simp; first | done | with_reducible rfl) ?_; simp only [Act.put, pA, pZ, pS])
  iterate 11 (refine rv_skip (by kernel_rfl) ?_; simp only [Act.put, pA, pZ, pS])
  refine rv_det (by kernel_rfl) rfl (by intro w hG hH; go_simp; first | done | with_reducible rfl) ?_
  simp only [Act.put, pA, pZ, pS]
  refine rv_nil (fun w hG hH => ?_)
  have HK2 := Lib.hid hG
  clear hG hH
  go_wp2_with fail
  refine bodyPost_ret (results_tmp3 rfl _ _) rfl ?_
  exact ⟨H1.out.1.trans HK2.out, Or.inl ⟨HNO.out, rfl⟩⟩
 have HUP := Lib.hid hup
 obtain ⟨fb, fo, d, hfa, hfc, hGr⟩ := HU.out.hF k hkL
 obtain ⟨g, hg⟩ : ∃ g, g = Fs[k] := ⟨_, rfl⟩
 rw [← hg] at hfc hGr hGh ⊢
 obtain ⟨NL, hNL⟩ : ∃ n, n = g.locals.length := ⟨_, rfl⟩
 rw [← hNL]
 have q4 : w1.cell? ⟨fb, fo + k * 7 + 4, none⟩ = some (.slice d.la NL d.lc) := by
  have h := hfc 4 (by decide)
  rw [hNL]
  exact H1.out.1.cell (p := ⟨fb, fo + k * 7 + 4, none⟩) (fun x => x) h
 have u0 : w1.cell? ⟨w0.heap.size, 0, none⟩ = some (.slice u.sa NS u.sc) := blk_cell H1.out.2.1 0
 have u1 : w1.cell? ⟨w0.heap.size, 1, none⟩ = some (.slice u.fa NF u.fc) := blk_cell H1.out.2.1 1
 have p0 : w1.cell? ⟨w0.heap.size + 1, 0, none⟩ = some (.int .i64 p.loc) := blk_cell H1.out.2.2 0
 have p1 : w1.cell? ⟨w0.heap.size + 1, 1, none⟩ = some (.slice pa NP pc) := blk_cell H1.out.2.2 1
 have MAY := Lib.hid (fun (V : World) (hV : KB F0 w1 V) => plMay_any S HU.out.hn HU.out.hl u.sa u.sc HU.out.hsc g.locals hGr.lsmall d.la d.lc p pa pc V (HU.out.hS.kbF (H1.out.1.trans hV)) (hGr.locals.kbF (H1.out.1.trans hV)) (HPL.out.kbF (H1.out.1.trans hV)))
 obtain ⟨b, hb⟩ : ∃ b, b = (wkP S g.locals p).isSome := ⟨_, rfl⟩
 unfold plV at MAY
 rw [← hb, ← HN.out.2.1, ← HN.out.2.2, ← hNL] at MAY
 have hkI : (k : Int) < (NF : Int) := by have := HN.out.1; omega
 have hkF : k < NF := by omega
 rw [hfa] at u1
 have HG := Lib.hid (And.intro hGr (And.intro hg (And.intro hNL (And.intro hkL (And.intro hb hfa)))))
 have HGh := Lib.hid hGh
 clear hGr hg hNL hb hfa hfc hGh hup
 go_upto_region 2 with fail
 refine wp_region_rv 15 GK (kindW [(12, (fun v => v = .bool b), (fun _ _ => True))]) (by kernel_rfl) (by kernel_rfl) (kb_trans _) (kb_refl _) (kb_start _ _) (kindW_mono _ (by intro p hp; simp only [List.mem_cons, List.not_mem_nil, or_false] at hp; rcases hp with rfl <;> exact lasts_true)) ?_
 simp only [pT, pU, pV, pW]
 iterate 4 (refine rv_det (by kernel_rfl) rfl (by intro w hG hH; go_simp; first | done | with_reducible rfl) ?_; simp only [Act.put, pA, pZ, pS])
 refine rv_det (by kernel_rfl) rfl (by intro w hG hH; have hc0 := kc hG (u0); go_simp; first | done | with_reducible rfl) ?_
 simp only [Act.put, pA, pZ, pS]
 refine rv_det (by kernel_rfl) rfl (by intro w hG hH; go_simp; first | done | with_reducible rfl) ?_
 simp only [Act.put, pA, pZ, pS]
 refine rv_det (by kernel_rfl) rfl (by intro w hG hH; have hc0 := kc hG (u1); go_simp; first | done | with_reducible rfl) ?_
 simp only [Act.put, pA, pZ, pS]
 iterate 3 (refine rv_det (by kernel_rfl) rfl (by intro w hG hH; go_simp; first | done | with_reducible rfl) ?_; simp only [Act.put, pA, pZ, pS])
 refine rv_det (by kernel_rfl) rfl (by intro w hG hH; have hc0 := kc hG (q4); go_simp; first | done | with_reducible rfl) ?_
 simp only [Act.put, pA, pZ, pS]
 refine rv_det (by kernel_rfl) rfl (by intro w hG hH; have hc0 := kc hG (p0); have hc1 := kc hG (p1); go_simp; first | done | with_reducible rfl) ?_
 simp only [Act.put, pA, pZ, pS]
 refine rv_rel (by kernel_rfl) rfl ⟨_, rfl⟩ (by
  intro w hG hH
  refine opVal_call (by go_simp; first | done | exact ⟨⟨rfl, rfl⟩, rfl⟩) ?_
  refine (MAY.out _ hG).mono ?_
  rintro e w' ⟨rfl, hq⟩
  exact ⟨_, rfl, rfl, by first | (obtain ⟨nq, rfl⟩ := hq; exact (KB.refl _ _).drewN _) | (subst hq; exact KB.refl _ _) | exact hq, trivial⟩) ?_
 rintro v rfl
 simp only [Act.put, pA, pZ, pS]
 iterate 2 (refine rv_det (by kernel_rfl) rfl (by intro w hG hH; go_simp; first | done | with_reducible rfl) ?_; simp only [Act.put, pA, pZ, pS])
 refine rv_nil (fun w hG hH => ?_)
 obtain ⟨w2, rfl⟩ : ∃ x, x = w := ⟨_, rfl⟩
 have HK2 := Lib.hid (H1.out.1.trans hG)
 have HU2 := Lib.hid (hG.heap (fun x => x) H1.out.2.1)
 have HP2 := Lib.hid (hG.heap (fun x => x) H1.out.2.2)
 have HG2 := Lib.hid (hG.heap (fun x => x) HGh.out)
 have q4 := hG.cell (p := ⟨fb, fo + k * 7 + 4, none⟩) (fun x => x) q4
 have HQ4 := Lib.hid q4
 clear hG hH u0 u1 p0 p1 q4 MAY
 cases b with
 | false =>
  have HNO : Hid (∀ (k' : Nat) (hk : k' < Fs.length), ((k : Nat) : Int) = (k' : Nat) → UnitP S Fs u.mn → ¬ (wkP S Fs[k'].locals p).isSome = true) := Lib.hid (fun k' hk e hu => by
   obtain rfl : k = k' := by omega
   rw [← HG.out.2.1, ← HG.out.2.2.2.2.1]
   decide)
  as_aux_lemma =>
  go_wp2_with fail
  refine bodyPost_ret (results_tmp3 rfl _ _) rfl ?_
  exact ⟨HK2.out, Or.inl ⟨HNO.out, rfl⟩⟩
 | true =>
 have HWK : Hid (MayP S g.locals p ∧ (walkN S (g.locals.getD p.loc.toNat ty0) p.path p.path.length).isSome = true) := Lib.hid (by
  have h := HG.out.2.2.2.2.1
  by_cases hm : MayP S g.locals p
  ·rw [wkP_pos hm] at h; exact ⟨hm, h.symm⟩
  ·rw [wkP_neg hm] at h; cases h)
 obtain ⟨j, hj⟩ : ∃ j : Nat, p.loc = j := ⟨p.loc.toNat, by have := HWK.out.1.1.1; omega⟩
 have hjL : j < NL := by have h1 := HWK.out.1.1.2; have h2 := HG.out.2.2.1; omega
 have hjI : (j : Int) < (NL : Int) := by omega
 obtain ⟨tb, tf, ta, tc, hla, hty, hta⟩ := HG.out.1.locals j (by rw [← HG.out.2.2.1]; exact hjL)
 obtain ⟨t, ht⟩ : ∃ t, t = g.locals.getD j ty0 := ⟨_, rfl⟩
 rw [← ht] at hty hta
 have hon : OnWay S w0 t ta tc := ⟨48, Nat.le_refl _, by
  refine HWK.out.1.2.2.2 t ?_
  have hjl : j < g.locals.length := by rw [← HG.out.2.2.1]; exact hjL
  rw [ht, List.getD_eq_getElem?_getD, List.getElem?_eq_getElem hjl]
  exact List.getElem_mem hjl, hta⟩
 have u1 : w2.cell? ⟨w0.heap.size, 1, none⟩ = some (.slice u.fa NF u.fc) := blk_cell HU2.out 1
 have p0 : w2.cell? ⟨w0.heap.size + 1, 0, none⟩ = some (.int .i64 p.loc) := blk_cell HP2.out 0
 have q4 := HQ4.out
 rw [HG.out.2.2.2.2.2] at u1
 rw [hj] at p0
 rw [hla] at q4
 obtain ⟨t0, t1, t2, t3, t4⟩ := hty.kbF HK2.out
 obtain ⟨NT, hNT⟩ : ∃ n, n = t.of.length := ⟨_, rfl⟩
 rw [← hNT] at t4
 have HT := Lib.hid (And.intro hon (And.intro ht (And.intro hj hNT)))
 clear hon ht hj hty hta hla hNT
 go_upto_region 4 with fail
 refine wp_region_rv 11 GK (kindW [(10, NewV, NewAt w2.heap.size #[.int .u8 0, .bool false, .int .i64 0, .int .i64 0, .slice none 0 0] 26)]) (by kernel_rfl) (by kernel_rfl) (kb_trans _) (kb_refl _) (kb_start _ _) (kindW_mono _ (by intro p hp; simp only [List.mem_cons, List.not_mem_nil, or_false] at hp; rcases hp with rfl; exact lasts_new _ _ _)) ?_
 simp only [pT, pU, pV, pW]
 refine rv_det (by kernel_rfl) rfl (by intro w hG hH; go_simp; first | done | with_reducible rfl) ?_
 simp only [Act.put, pA, pZ, pS]
 refine rv_det (by kernel_rfl) rfl (by intro w hG hH; have hc0 := kc hG (u1); go_simp; first | done | with_reducible rfl) ?_
 simp only [Act.put, pA, pZ, pS]
 iterate 3 (refine rv_det (by kernel_rfl) rfl (by intro w hG hH; go_simp; first | done | with_reducible rfl) ?_; simp only [Act.put, pA, pZ, pS])
 refine rv_det (by kernel_rfl) rfl (by intro w hG hH; have hc0 := kc hG (q4); go_simp; first | done | with_reducible rfl) ?_
 simp only [Act.put, pA, pZ, pS]
 refine rv_det (by kernel_rfl) rfl (by intro w hG hH; go_simp; first | done | with_reducible rfl) ?_
 simp only [Act.put, pA, pZ, pS]
 refine rv_det (by kernel_rfl) rfl (by intro w hG hH; have hc0 := kc hG (p0); go_simp; first | done | with_reducible rfl) ?_
 simp only [Act.put, pA, pZ, pS]
 refine rv_det (by kernel_rfl) rfl (by intro w hG hH; go_simp; first | done | with_reducible rfl) ?_
 simp only [Act.put, pA, pZ, pS]
 refine rv_det (by kernel_rfl) rfl (by intro w hG hH; have hc0 := kc hG (t0); have hc1 := kc hG (t1); have hc2 := kc hG (t2); have hc3 := kc hG (t3); have hc4 := kc hG (t4); go_simp; first | done | with_reducible rfl) ?_
 simp only [Act.put, pA, pZ, pS]
 refine rv_rel (by kernel_rfl) rfl ⟨.pointer (some ⟨0, 0, none⟩), 0, rfl⟩ (fun w hG hH => opVal_newS hG (by go_simp; first | done | rfl)) ?_
 rintro v ⟨Bt, rfl⟩
 simp only [Act.put, pA, pZ, pS]
 refine rv_nil (fun w hG hH => ?_)
 obtain ⟨Bt', e1, e2, e3⟩ := hH _ (List.mem_cons_self ..)
 cases e1
 obtain ⟨w3, rfl⟩ : ∃ x, x = w := ⟨_, rfl⟩
 have y0 : w3.cell? ⟨Bt, 0, none⟩ = some (.int .u8 0) := blk_cell e3 0
 have y1 : w3.cell? ⟨Bt, 1, none⟩ = some (.bool false) := blk_cell e3 1
 have y2 : w3.cell? ⟨Bt, 2, none⟩ = some (.int .i64 0) := blk_cell e3 2
 have y3 : w3.cell? ⟨Bt, 3, none⟩ = some (.int .i64 0) := blk_cell e3 3
 have y4 : w3.cell? ⟨Bt, 4, none⟩ = some (.slice none 0 0) := blk_cell e3 4
 have f0 := blk_frozen e3 0
 have f1 := blk_frozen e3 1
 have f2 := blk_frozen e3 2
 have f3 := blk_frozen e3 3
 have f4 := blk_frozen e3 4
 have H3 := Lib.hid (And.intro hG (And.intro e2 e3))
 clear hG hH e2 e3 p0 u1 q4 t0 t1 t2 t3 t4
 go_upto_region 6 with fail
 rw [show ((((w3.setCell ⟨Bt, 0, none⟩ (.int .u8 t.k)).setCell ⟨Bt, 1, none⟩ (.bool t.m)).setCell ⟨Bt, 2, none⟩ (.int .i64 t.r)).setCell ⟨Bt, 3, none⟩ (.int .i64 t.s)).setCell ⟨Bt, 4, none⟩ (.slice ta NT tc) = set5 w3 Bt (.int .u8 t.k) (.bool t.m) (.int .i64 t.r) (.int .i64 t.s) (.slice ta NT tc) from rfl]
 obtain ⟨W4, hW4⟩ : ∃ x, x = set5 w3 Bt (.int .u8 t.k) (.bool t.m) (.int .i64 t.r) (.int .i64 t.s) (.slice ta NT tc) := ⟨_, rfl⟩
 rw [← hW4]
 have k4 : KB F0 w2 W4 := by rw [hW4]; exact set5_new H3.out.1 H3.out.2.1 _ _ _ _ _
 have b4 : W4.heap[Bt]? = some (.cells #[.int .u8 t.k, .bool t.m, .int .i64 t.r, .int .i64 t.s, .slice ta NT tc] 26 (0, 0)) := by rw [hW4]; exact set5_blk H3.out.2.2 _ _ _ _ _
 obtain ⟨W5, hW5⟩ : ∃ x, x = W4.alloc (.cells #[.int .i64 0, .bool false] 74) := ⟨_, rfl⟩
 rw [← hW5]
 have z4 : W4.heap.size = w3.heap.size := by rw [hW4]; simp [set5]
 obtain ⟨Bg, hBg⟩ : ∃ n, n = w3.heap.size := ⟨_, rfl⟩
 rw [← hBg]
 have k5 : KB F0 W4 W5 := by rw [hW5]; exact (KB.refl _ _).alloc _
 have b5 : W5.heap[Bg]? = some (.cells #[.int .i64 0, .bool false] 74 (0, 0)) := by rw [hW5, hBg, ← z4]; exact alloc_new _ _
 have k25 := k4.trans k5
 obtain ⟨cp, hcp⟩ : ∃ c, c = #[Value.int .i64 p.loc, .slice pa NP pc] := ⟨_, rfl⟩
 obtain ⟨cu, hcu⟩ : ∃ c, c = #[Value.slice u.sa NS u.sc, .slice u.fa NF u.fc, .int .i64 u.mn] := ⟨_, rfl⟩
 obtain ⟨cG, hcG⟩ : ∃ c, c = ((frF S g).1.map (Value.int .i64)).toArray := ⟨_, rfl⟩
 have H5 : Hid (PcSt S t p.path w0 cu cp cG G Bt Bg 0 (.slice none 0 0) W5) := by
  have hlt2 := heap_lt HG2.out
  have hlt3 := heap_lt HP2.out
  have hlt4 := heap_lt b4
  have h3 := H3.out.2.1
  refine Lib.hid ⟨HK2.out.trans k25, ?_, ?_, ?_, ⟨ta, tc, ?_, HT.out.1⟩, b5, World.ownsRow_nil _ _ _ _, by omega, by omega, by omega⟩
  ·rw [hcu]; exact k25.heap (fun x => x) HU2.out
  ·rw [hcp]; exact k25.heap (fun x => x) HP2.out
  ·rw [hcG]; exact k25.heap (fun x => x) HG2.out
  ·have h := k5.heap (fun x => x) b4
   rw [HT.out.2.2.2] at h
   exact h
 have HC := Lib.hid (And.intro hcp (And.intro hcu hcG))
 have HWN : Hid (∀ i, i ≤ NP → (walkN S t p.path i).isSome = true) := Lib.hid (fun i hi => by
  have h := HWK.out.2
  have e : g.locals.getD p.loc.toNat ty0 = t := by rw [HT.out.2.1, HT.out.2.2.1]; rfl
  rw [e] at h
  obtain ⟨hs, h2⟩ := walkN_some (i := i) h (by rw [← HN.out.2.2]; exact hi)
  rw [h2]
  rfl)
 have p1 : W5.cell? ⟨w0.heap.size + 1, 1, none⟩ = some (.slice pa NP pc) := blk_cell (k25.heap (fun x => x) HP2.out) 1
 have hNP8 : NP ≤ 8 := by have h1 := HWK.out.1.2.1; have h2 := HN.out.2.2; omega
 clear hcp hcu hcG hW4 k4 b4 hW5 hBg k5 b5 k25 z4 y0 y1 y2 y3 y4 f0 f1 f2 f3 f4
 go_upto_region 7 with fail
 clear p1
 go_loopg [50, 7] NP (fun gg iv gv wr => ∃ i n ga gc, i ≤ NP ∧ gg = NP - i ∧ iv = .int .i64 (i : Nat) ∧ gv = .slice ga n gc ∧ Hid (n = (goN S t p.path i).2.2.length ∧ PcSt S t p.path w0 cu cp cG G Bt Bg i (.slice ga n gc) wr))
 case atStart => exact ⟨0, 0, none, 0, by omega, by omega, rfl, rfl, Lib.hid ⟨rfl, H5.out⟩⟩
 case round =>
  obtain ⟨i, n, ga, gc, hi, rfl, rfl, rfl, hst⟩ := hrel
  obtain ⟨wA, rfl⟩ : ∃ x, x = wr := ⟨_, rfl⟩
  by_cases hlt : i < NP
  ·as_aux_lemma =>
   have hiI : (i : Int) < (NP : Int) := by omega
   have dI : decide ((i : Int) < (NP : Int)) = true := decide_eq_true hiI
   obtain ⟨pb, po, rfl, hpk⟩ := HPL.out.ints i (by rw [← HN.out.2.2]; exact hlt)
   have hpk := hst.out.2.kb.cell (p := ⟨pb, po + i, none⟩) (fun x => x) hpk
   have hby := goN_by HUP.out.good (HWN.out NP (Nat.le_refl _)) (i + 1) (by omega)
   obtain ⟨x, hx⟩ : ∃ x, x = (goN S t p.path i).1 := ⟨_, rfl⟩
   obtain ⟨a, ha⟩ : ∃ x, x = (goN S t p.path i).2.1.1 := ⟨_, rfl⟩
   obtain ⟨bb, hbb⟩ : ∃ x, x = (goN S t p.path i).2.1.2 := ⟨_, rfl⟩
   obtain ⟨ua, uc, hty, hon⟩ := hst.out.2.ty
   have hgo := hst.out.2.go
   rw [← ha, ← hbb] at hgo
   rw [← hx] at hty hon
   have u0 : wA.cell? ⟨w0.heap.size, 0, none⟩ = some (.slice u.sa NS u.sc) := by
    have h := hst.out.2.u
    rw [HC.out.2.1] at h
    exact blk_cell h 0
   have g0 : wA.cell? ⟨Bg, 0, none⟩ = some (.int .i64 (a : Nat)) := blk_cell hgo 0
   have g1 : wA.cell? ⟨Bg, 1, none⟩ = some (.bool bb) := blk_cell hgo 1
   have fg0 := blk_frozen hgo 0
   have fg1 := blk_frozen hgo 1
   have y3 : wA.cell? ⟨Bt, 3, none⟩ = some (.int .i64 x.s) := blk_cell hty 3
   have HX := Lib.hid (And.intro hx (And.intro ha hbb))
   have HTY := Lib.hid (And.intro hty (And.intro hon hgo))
   rcases goN_step (HWN.out (i + 1) (by omega)) with ⟨hm1, hk34⟩ | ⟨hne, hk5, hge, hlf⟩
   ·as_aux_lemma =>
    rw [hm1] at hpk
    rw [← hx] at hk34
    obtain ⟨ib, io, ya, yc, rfl, hone, huc, hyc, hyon⟩ := hon.deref hk34
    obtain ⟨y, hy⟩ : ∃ y, y = in0 x := ⟨_, rfl⟩
    rw [← hy] at hyc hyon
    have hucI : (1 : Int) ≤ (uc : Int) := by omega
    have hrow := hst.out.2.own
    rw [← hst.out.1] at hrow
    have hnb : n ≤ i := by rw [hst.out.1]; exact goN_len i
    have hszA := heap_lt hgo
    have HY := Lib.hid (And.intro hy (And.intro hyon (And.intro hyc (And.intro hm1 hone))))
    clear hy hyon hyc hm1 hone hk34 hon hgo hty hby hx ha hbb u0 y3
    go_upto_region 13 with fail
    obtain ⟨W7, hW7⟩ : ∃ x, x = wA.setCell ⟨Bg, 1, none⟩ (.bool true) := ⟨_, rfl⟩
    rw [← hW7]
    have b7 : W7.heap[Bg]? = some (.cells #[.int .i64 (a : Nat), .bool true] 74 (0, 0)) := by rw [hW7]; exact setCell_blk (i := 1) HTY.out.2.2 _
    have k7 := kb_set wA Bg 1 (.bool true)
    rw [← hW7] at k7
    have z7 : W7.heap.size = wA.heap.size := by rw [hW7]; simp
    have g0 : W7.cell? ⟨Bg, 0, none⟩ = some (.int .i64 (a : Nat)) := blk_cell b7 0
    have g1 : W7.cell? ⟨Bg, 1, none⟩ = some (.bool true) := blk_cell b7 1
    have r7 := own_kb hrow k7 (fun q hq e => by have := (hrow.lt q hq).1; omega)
    have HW7 := Lib.hid hW7
    have HZ7 := Lib.hid z7
    clear fg0 fg1 b7 k7 hrow hW7 z7
    go_wp2_with (at_builtin; refine Stopped.out ?_)
    refine ⟨?_⟩
    have k8 := (KB.refl F0 W7).alloc (.cells #[.int .i64 (a : Nat), .bool true] 74)
    refine list_appG rfl (.tmp 78) (.tmp 80) rfl (Bg + 1) (.slice ga n gc) n _ rfl (own_kb r7 k8 (fun _ _ x => x)) W7.heap.size 1 [.int .i64 (a : Nat), .bool true] rfl rfl (alloc_new _ _) (by intro u hu; simp only [List.mem_cons, List.not_mem_nil, or_false] at hu; rcases hu with rfl | rfl <;> rfl) (by omega) (by have := k8.size; have := HZ7.out; omega) ?_
    intro gn cap w' r' k' a'
    have HNX := Lib.hid (hst.out.2.nextD (v' := .slice (some ⟨gn, 0, none⟩) (n + 1) cap) (w' := w') HY.out.2.2.2.1 (y := y) (by rw [HY.out.1, HX.out.1]) HY.out.2.1 (cs := #[.int .i64 (a : Nat), .bool true]) (by rw [← HW7.out]; exact k') (by rw [← hst.out.1, ← HX.out.2.1]; exact r'))
    clear r' k' a' k8 r7 g0 g1
    obtain ⟨a9, c9, hbt9, hbtA⟩ := HNX.out.2.1
    rw [← HX.out.1] at hbt9 hbtA
    have hbg9 := HNX.out.2.2.1
    rw [← HX.out.2.1] at hbg9
    have e9 := HTY.out.1
    rw [hbtA] at e9
    simp only [Option.some.injEq, Obj.cells.injEq, Array.mk.injEq, List.cons.injEq, Value.slice.injEq, and_true, true_and] at e9
    obtain ⟨rfl, rfl⟩ := e9
    unfold tyObj at hbt9
    rw [HY.out.2.2.2.2] at hbt9
    have g0 : w'.cell? ⟨Bg, 0, none⟩ = some (.int .i64 (a : Nat)) := blk_cell hbg9 0
    have g1 : w'.cell? ⟨Bg, 1, none⟩ = some (.bool true) := blk_cell hbg9 1
    have fg0 := blk_frozen hbg9 0
    have fg1 := blk_frozen hbg9 1
    have HBT := Lib.hid hbt9
    clear hbt9 hbg9 hbtA
    go_upto_region 15 with fail
    obtain ⟨W9, hW9⟩ : ∃ x, x = (w'.setCell ⟨Bg, 0, none⟩ (.int .i64 0)).setCell ⟨Bg, 1, none⟩ (.bool false) := ⟨_, rfl⟩
    rw [← hW9]
    have k9 : KB (fun k => k = Bg) w' W9 := by rw [hW9]; exact (kb_set w' Bg 0 (.int .i64 0)).trans (kb_set _ Bg 1 (.bool false))
    have t9 := k9.heap (b := Bt) (by have h2 := hst.out.2.b2; omega) HBT.out
    have K9 : KB F0 w0 W9 := HNX.out.1.oldS k9 (fun q hq e => by have h1 := hst.out.2.b1; have h2 := hst.out.2.b2; omega)
    have y0 : W9.cell? ⟨Bt, 0, none⟩ = some (.int .u8 x.k) := blk_cell t9 0
    have y1 : W9.cell? ⟨Bt, 1, none⟩ = some (.bool x.m) := blk_cell t9 1
    have y2 : W9.cell? ⟨Bt, 2, none⟩ = some (.int .i64 x.r) := blk_cell t9 2
    have y3 : W9.cell? ⟨Bt, 3, none⟩ = some (.int .i64 x.s) := blk_cell t9 3
    have y4 : W9.cell? ⟨Bt, 4, none⟩ = some (.slice (some ⟨ib, io, none⟩) 1 c9) := blk_cell t9 4
    have f0 := blk_frozen t9 0
    have f1 := blk_frozen t9 1
    have f2 := blk_frozen t9 2
    have f3 := blk_frozen t9 3
    have f4 := blk_frozen t9 4
    obtain ⟨j0, j1, j2, j3, j4⟩ := HY.out.2.2.1.kbF K9
    have HW9 := Lib.hid hW9
    clear hW9 k9 t9 K9 g0 g1 fg0 fg1
    go_wp2_with fail
    go_roundg (NP - (i + 1))
    case measure => omega
    case rel =>
     refine ⟨i + 1, n + 1, some ⟨gn, 0, none⟩, cap, by omega, rfl, by go_num, rfl, Lib.hid ⟨?_, ?_⟩⟩
     ·rw [goN_dn HY.out.2.2.2.1, List.length_append, ← hst.out.1]
      rfl
     ·rw [HW9.out]
      exact HNX.out.2.2.2
   ·as_aux_lemma =>
    obtain ⟨kk, hkk⟩ : ∃ kk : Nat, p.path.getD i 0 = kk := ⟨(p.path.getD i 0).toNat, by omega⟩
    have hkf : kk < (fds S x.s.toNat).length := by rw [hx]; omega
    rw [hkk] at hpk
    rw [← hx] at hk5
    obtain ⟨us, sb, so, fb', fo', fc', ya, yc, hxs, hus, hsa, hfl, hfcap, hyc, hyon⟩ := hon.field HUP.out.good HU.out.hS hk5 hkf
    obtain ⟨y, hy⟩ : ∃ y, y = (fds S x.s.toNat).getD kk ty0 := ⟨_, rfl⟩
    rw [← hy] at hyc hyon
    obtain ⟨LF, hLF⟩ : ∃ n, n = (fds S x.s.toNat).length := ⟨_, rfl⟩
    rw [← hLF] at hfl hkf hfcap
    rw [hxs] at y3
    have hxn : x.s.toNat = us := by omega
    have FD := Lib.hid (fun (V : World) (hV : KB F0 wA V) => lyfield_any S HUP.out.good 49 u.sa u.sc us hus kk (by rw [← hxn, ← hLF]; omega) V (HU.out.hS.kbF (hst.out.2.kb.trans hV)))
    obtain ⟨ws, hws⟩ : ∃ n, n = wsum S 34 us kk := ⟨_, rfl⟩
    rw [← hws, ← HN.out.2.1] at FD
    have hE := goN_fd (S := S) (t0 := t) (path := p.path) (i := i) hkk
    have hwb : a + ws ≤ 100000 * 9 := by
     rw [hE] at hby
     have : (goN S t p.path i).2.1.1 + wsum S 34 (goN S t p.path i).1.s.toNat kk ≤ 100000 * (i + 1) := hby
     rw [← ha, ← hx, hxn, ← hws] at this
     omega
    obtain ⟨am, ham⟩ : ∃ m, m = a + ws := ⟨_, rfl⟩
    have wq : IntKind.i64.wrap ((a : Int) + (ws : Int)) = (am : Int) := by rw [w64 (by omega) (by omega)]; omega
    have HAM := Lib.hid ham
    have hnI : (((kk : Nat) : Int) == -1) = false := by rw [beq_eq_false_iff_ne]; omega
    have HY := Lib.hid (And.intro hy (And.intro hyon (And.intro hyc (And.intro hxn (And.intro hws (And.intro hkk (And.intro hfl hsa)))))))
    have HUS : Hid (us < NS) := Lib.hid (by rw [HN.out.2.1]; exact hus)
    have HK5 := Lib.hid hk5
    clear ham hwb hy hyon hyc hxn hws hkk hfl hE hby hx ha hbb hty hgo hon hxs hus hLF hk5 hne hge hlf g1 fg1 hsa
    go_upto_region 10 with fail
    refine wp_region_rv 10 GK (kindW [(7, (fun v => v = .int .i64 (ws : Nat)), (fun _ _ => True))]) (by kernel_rfl) (by kernel_rfl) (kb_trans _) (kb_refl _) (kb_start _ _) (kindW_mono _ (by intro p hp; simp only [List.mem_cons, List.not_mem_nil, or_false] at hp; rcases hp with rfl <;> exact lasts_true)) ?_
    simp only [pT, pU, pV, pW]
    refine rv_det (by kernel_rfl) rfl (by intro w hG hH; go_simp; first | done | with_reducible rfl) ?_
    simp only [Act.put, pA, pZ, pS]
    refine rv_det (by kernel_rfl) rfl (by intro w hG hH; have hc0 := kc hG (g0); go_simp; first | done | with_reducible rfl) ?_
    simp only [Act.put, pA, pZ, pS]
    refine rv_det (by kernel_rfl) rfl (by intro w hG hH; go_simp; first | done | with_reducible rfl) ?_
    simp only [Act.put, pA, pZ, pS]
    refine rv_det (by kernel_rfl) rfl (by intro w hG hH; have hc0 := kc hG (u0); go_simp; first | done | with_reducible rfl) ?_
    simp only [Act.put, pA, pZ, pS]
    refine rv_det (by kernel_rfl) rfl (by intro w hG hH; go_simp; first | done | with_reducible rfl) ?_
    simp only [Act.put, pA, pZ, pS]
    refine rv_det (by kernel_rfl) rfl (by intro w hG hH; have hc0 := kc hG (y3); go_simp; first | done | with_reducible rfl) ?_
    simp only [Act.put, pA, pZ, pS]
    refine rv_det (by kernel_rfl) rfl (by intro w hG hH; go_simp; first | done | with_reducible rfl) ?_
    simp only [Act.put, pA, pZ, pS]
    refine rv_rel (by kernel_rfl) rfl ⟨_, rfl⟩ (by
     intro w hG hH
     refine opVal_call (by go_simp; first | done | exact ⟨⟨rfl, rfl⟩, rfl⟩) ?_
     refine (FD.out _ hG).mono ?_
     rintro e w' ⟨rfl, hq⟩
     exact ⟨_, rfl, rfl, by first | (obtain ⟨nq, rfl⟩ := hq; exact (KB.refl _ _).drewN _) | (subst hq; exact KB.refl _ _) | exact hq, trivial⟩) ?_
    rintro v rfl
    simp only [Act.put, pA, pZ, pS]
    iterate 2 (refine rv_det (by kernel_rfl) rfl (by intro w hG hH; go_simp; first | done | with_reducible rfl) ?_; simp only [Act.put, pA, pZ, pS])
    refine rv_nil (fun w hG hH => ?_)
    obtain ⟨w7, rfl⟩ : ∃ x, x = w := ⟨_, rfl⟩
    have H7 := Lib.hid hG
    have hgo7 := hG.heap (fun x => x) HTY.out.2.2
    have g0 : w7.cell? ⟨Bg, 0, none⟩ = some (.int .i64 (a : Nat)) := blk_cell hgo7 0
    have fg0 := blk_frozen hgo7 0
    clear hG hH u0 y3 hgo7 FD
    go_upto_region 11 with fail
    obtain ⟨W8, hW8⟩ : ∃ x, x = w7.setCell ⟨Bg, 0, none⟩ (.int .i64 (am : Nat)) := ⟨_, rfl⟩
    rw [← hW8]
    have k8 := kb_set w7 Bg 0 (.int .i64 (am : Nat))
    rw [← hW8] at k8
    have K8 : Hid (KB F0 w0 W8) := Lib.hid (by
     have h1 := hst.out.2.b1
     have h2 := hst.out.2.b2
     rw [hW8]
     exact kb_new (hst.out.2.kb.trans H7.out) (by omega) 0 _)
    have u8 := k8.heap (b := w0.heap.size) (by have h1 := hst.out.2.b1; have h2 := hst.out.2.b2; omega) (H7.out.heap (fun x => x) hst.out.2.u)
    rw [HC.out.2.1] at u8
    have u0 : W8.cell? ⟨w0.heap.size, 0, none⟩ = some (.slice u.sa NS u.sc) := blk_cell u8 0
    rw [HY.out.2.2.2.2.2.2.2] at u0
    have t8 := k8.heap (b := Bt) (by have h2 := hst.out.2.b2; omega) (H7.out.heap (fun x => x) HTY.out.1)
    have y0 : W8.cell? ⟨Bt, 0, none⟩ = some (.int .u8 x.k) := blk_cell t8 0
    have y1 : W8.cell? ⟨Bt, 1, none⟩ = some (.bool x.m) := blk_cell t8 1
    have y2 : W8.cell? ⟨Bt, 2, none⟩ = some (.int .i64 x.r) := blk_cell t8 2
    have y3 : W8.cell? ⟨Bt, 3, none⟩ = some (.int .i64 x.s) := blk_cell t8 3
    have hxs : x.s = (us : Nat) := by
     have h1 := HY.out.2.2.2.1
     obtain ⟨dd, -, h2, -⟩ := HTY.out.2.1
     have h3 := (look_struct h2 HK5.out).1
     omega
    rw [hxs] at y3
    have y4 : W8.cell? ⟨Bt, 4, none⟩ = some (.slice ua x.of.length uc) := blk_cell t8 4
    have f0 := blk_frozen t8 0
    have f1 := blk_frozen t8 1
    have f2 := blk_frozen t8 2
    have f3 := blk_frozen t8 3
    have f4 := blk_frozen t8 4
    have fl := K8.out.cell (p := ⟨sb, so + us * 2 + 1, none⟩) (fun x => x) HY.out.2.2.2.2.2.2.1
    obtain ⟨j0, j1, j2, j3, j4⟩ := HY.out.2.2.1.kbF K8.out
    have husN : us < NS := HUS.out
    have husI : (us : Int) < (NS : Int) := by omega
    have hkkI : (kk : Int) < (LF : Int) := by omega
    have HW8 := Lib.hid hW8
    clear hW8 k8 u8 t8 hxs g0 fg0
    go_wp2_with fail
    go_roundg (NP - (i + 1))
    case measure => omega
    case rel =>
     refine ⟨i + 1, n, ga, gc, by omega, rfl, by go_num, rfl, Lib.hid ⟨?_, ?_⟩⟩
     ·rw [goN_fd HY.out.2.2.2.2.2.1]
      exact hst.out.1
     ·rw [HW8.out]
      refine hst.out.2.nextF H7.out HY.out.2.2.2.2.2.1 (y := y) (by rw [HY.out.1, HX.out.1]) HY.out.2.1 ?_
      rw [HAM.out, HX.out.2.1, HY.out.2.2.2.2.1, ← HX.out.1, HY.out.2.2.2.1]
  ·obtain rfl : i = NP := by omega
   have dI : decide ((i : Int) < (i : Int)) = false := decide_eq_false (by omega)
   have hby := goN_by HUP.out.good (HWN.out i (Nat.le_refl _)) i (Nat.le_refl _)
   obtain ⟨a, ha⟩ : ∃ x, x = (goN S t p.path i).2.1.1 := ⟨_, rfl⟩
   obtain ⟨bb, hbb⟩ : ∃ x, x = (goN S t p.path i).2.1.2 := ⟨_, rfl⟩
   have hgo := hst.out.2.go
   rw [← ha, ← hbb] at hgo
   have p0 : wA.cell? ⟨w0.heap.size + 1, 0, none⟩ = some (.int .i64 (j : Nat)) := by
    have h := hst.out.2.p
    rw [HC.out.1, HT.out.2.2.1] at h
    exact blk_cell h 0
   obtain ⟨z, hz⟩ : ∃ z, z = (frF S g).1.getD j 0 := ⟨_, rfl⟩
   have c0 : wA.cell? ⟨G, j, none⟩ = some (.int .i64 z) := by
    have h := hst.out.2.at_
    rw [HC.out.2.2] at h
    have hl : (frF S g).1.length = NL := by rw [HG.out.2.2.1]; exact frS_len _ _ _ _
    rw [blk_cell h j, hz, List.getElem?_toArray, List.getElem?_map, List.getElem?_eq_getElem (by omega), List.getD_eq_getElem?_getD, List.getElem?_eq_getElem (by omega)]
    rfl
   have g0 : wA.cell? ⟨Bg, 0, none⟩ = some (.int .i64 (a : Nat)) := blk_cell hgo 0
   have g1 : wA.cell? ⟨Bg, 1, none⟩ = some (.bool bb) := blk_cell hgo 1
   have hrow := hst.out.2.own
   rw [← hst.out.1] at hrow
   have hnb : n ≤ i := by rw [hst.out.1]; exact goN_len i
   have hszA := heap_lt hgo
   have HA := Lib.hid (And.intro ha (And.intro hbb hz))
   clear ha hbb hz hgo hby
   go_upto_region 17 with fail
   have hown := hrow
   have hsB : Bg + 1 ≤ wA.heap.size := hszA
   have HLT := Lib.hid (fun q (hq : (Value.slice ga n gc).ownBlock = some q) => hrow.lt q hq)
   obtain ⟨us, hus⟩ : ∃ l, l = goCs (goN S t p.path i).2.2 := ⟨_, rfl⟩
   rw [← hus] at hown
   obtain ⟨ns, hns⟩ : ∃ l : List Value, l = [.int .i64 (a : Nat), .bool bb] := ⟨_, rfl⟩
   have hn1 : ∀ v ∈ ns, v.oneCell' = true := by rw [hns]; intro u hu; simp only [List.mem_cons, List.not_mem_nil, or_false] at hu; rcases hu with rfl | rfl <;> rfl
   have hn2 : ns.length = 2 := by rw [hns]; rfl
   have HNS := Lib.hid (And.intro hns hus)
   have OWN := Lib.hid hown
   have hpA : ∀ q, (Value.slice ga n gc).ownBlock = some q → Bg + 1 ≤ q := fun q hq => (HLT.out q hq).1
   have OWB : Hid (∀ q, (Value.slice ga n gc).ownBlock = some q → q ≠ w0.heap.size + 1 ∧ q ≠ G ∧ q ≠ Bg) := Lib.hid (fun q hq => by
    have h1 := hpA q hq
    have h2 := hst.out.2.b1
    have h3 := hst.out.2.b2
    have h4 := hst.out.2.b3
    omega)
   have hrw : ∀ v0 v1 : Value, v0 = .int .i64 (a : Nat) → v1 = .bool bb → (#[v0, v1] : Array Value) = ns.toArray := fun v0 v1 e1 e2 => by rw [e1, e2, hns]
   have HRW := Lib.hid hrw
   clear hus hns hown hrow hrw hpA
   refine wp_region_rv 9 (A2.GA (Bg + 1) 74 (.slice ga n gc) (n + 1) (us ++ ns)) (kindW [(7, OneRow wA.heap.size ns.toArray 74, OneRowAt wA.heap.size ns.toArray 74), (8, fun v => ∃ a c, v = .slice a (n + 1) c, A2.FA (Bg + 1) wA.heap.size 74 (.slice ga n gc) (n + 1) (us ++ ns))])
    (by kernel_rfl) (by kernel_rfl) A2.GA.trans A2.GA.refl (A2.GA.start _) (A2.kindW_monoG _ (by
     intro p hp; simp only [List.mem_cons, List.not_mem_nil, or_false] at hp
     rcases hp with rfl | rfl
     ·rintro v a b hG ⟨nb, h1, h2, h3⟩
      exact ⟨nb, h1, h2, hG.1.heap (fun e => by have := (HLT.out nb e).2; omega) h3⟩
     ·intro v a b hG hf
      exact hf.lasts hG)) ?_
   simp only [pT, pU, pV, pW]
   iterate 2 (refine rv_det (by kernel_rfl) rfl (by intro w hG hH; go_simp; first | done | with_reducible rfl) ?_; simp only [Act.put, pA, pZ, pS])
   iterate 2 (refine rv_det (by kernel_rfl) rfl (by intro w hG hH; have hc0 := KB.cell hG.1 (fun e => (OWB.out _ e).1 rfl) p0; go_simp; first | done | with_reducible rfl) ?_; simp only [Act.put, pA, pZ, pS])
   iterate 2 (refine rv_det (by kernel_rfl) rfl (by intro w hG hH; have hc0 := KB.cell hG.1 (fun e => (OWB.out _ e).2.1 rfl) c0; go_simp; first | done | with_reducible rfl) ?_; simp only [Act.put, pA, pZ, pS])
   refine rv_det (by kernel_rfl) rfl (by intro w hG hH; have hc0 := KB.cell hG.1 (fun e => (OWB.out _ e).2.2 rfl) g0; have hc1 := KB.cell hG.1 (fun e => (OWB.out _ e).2.2 rfl) g1; go_simp; first | done | with_reducible rfl) ?_
   simp only [Act.put, pA, pZ, pS]
   refine rv_rel (by kernel_rfl) rfl ⟨.slice (some ⟨_, 0, none⟩) 1 1, _, rfl, Nat.le_refl _⟩ (fun w hG hH => opVal_value (v := .slice (some ⟨w.heap.size, 0, none⟩) 1 1) (w' := w.alloc (.cells ns.toArray 74)) (by rw [← HRW.out _ _ rfl rfl]; go_simp; first | done | rfl)
    ⟨⟨_, rfl, hG.1.size⟩, A2.GA.kb ((KB.refl (fun _ => False) w).alloc _) (fun _ x => x) (fun g e => by have := (HLT.out g e).2; have := hG.1.size; omega), ⟨_, rfl, hG.1.size, alloc_new w _⟩⟩) ?_
   rintro v ⟨nb, rfl, hnb4⟩
   simp only [Act.put, pA, pZ, pS]
   refine rv_rel (by kernel_rfl) rfl ⟨.slice none (n + 1) 0, _, _, rfl⟩ (fun w hG hH => by
    obtain ⟨nb', e, -, hrow⟩ := hH (7, fun w => OneRowAt wA.heap.size ns.toArray 74 (.slice (some ⟨nb, 0, none⟩) 1 1) w) List.mem_cons_self (by kernel_rfl)
    simp only [Value.slice.injEq, Option.some.injEq, Addr.mk.injEq, and_true] at e
    subst e
    have hul := OWN.out.1
    have htk : (us ++ ns).take (n * 2) = us := by rw [← hul]; exact List.take_left
    have hold : w.ownsRow (Bg + 1) 74 2 (.slice ga n gc) n us := by
     have := A2.GA.old (m := n) hG (by rw [htk]; exact OWN.out) (by omega)
     rwa [htk] at this
    have hsw := hG.1.size
    refine A2.opVal_imp (A2.opVal_append (P := Tryz.prog) (Bg + 1) wA.heap.size hsw (.tmp 93) (.tmp 95) 68 74 rfl Tryz.infoGo Tryz.underlying68' rfl (.slice ga n gc) n us (by go_simp; first | done | rfl) hold nb 1 ns hn2 74 (by go_simp; first | done | rfl) hrow hn1 (by unfold maxLen; omega) (by omega) (by omega)) ?_
    rintro v w' ⟨h1, h2⟩
    obtain ⟨a1, c1, e, -⟩ := own_shape h1.1
    exact ⟨⟨a1, c1, e⟩, h2, h1⟩) ?_
   rintro v ⟨ga', gc', rfl⟩
   simp only [Act.put, pA, pZ, pS]
   refine rv_nil (fun w hG hH => ?_)
   have hFA : A2.FA (Bg + 1) wA.heap.size 74 (.slice ga n gc) (n + 1) (us ++ ns) (.slice ga' (n + 1) gc') w := hH (8, fun w => A2.FA (Bg + 1) wA.heap.size 74 (.slice ga n gc) (n + 1) (us ++ ns) (.slice ga' (n + 1) gc') w) List.mem_cons_self
   obtain ⟨w7, rfl⟩ : ∃ x, x = w := ⟨_, rfl⟩
   have HF := Lib.hid (And.intro hFA.1 hG.1)
   clear hG hH hFA p0 c0 g0 g1
   go_wp2_with fail
   refine bodyPost_ret (results_tmp3 rfl _ _) rfl ?_
   have hb1 := hst.out.2.b1
   have hb2 := hst.out.2.b2
   have hgl : goF S (g.locals.getD p.loc.toNat ty0) p.path = (goN S t p.path i).2.2 ++ [(a, bb)] := by
    have e : g.locals.getD p.loc.toNat ty0 = t := by rw [HT.out.2.1, HT.out.2.2.1]; rfl
    unfold goF
    rw [e, ← HN.out.2.2, HA.out.1, HA.out.2.1]
   refine ⟨hst.out.2.kb.oldS HF.out.2 (fun q hq e => by have := (HLT.out q e).1; omega), Or.inr ⟨k, hkL, rfl, HUP.out, ?_, .slice ga' (n + 1) gc', ?_, ?_⟩⟩
   ·rw [← HG.out.2.1, ← HG.out.2.2.2.2.1]
   ·rw [← HG.out.2.1, HA.out.2.2, HT.out.2.2.1]
    rfl
   ·rw [← HG.out.2.1, hgl, goCs_snoc, List.length_append, ← hst.out.1, ← HNS.out.2, ← HNS.out.1]
    exact own_base HF.out.1 (by omega)
end Go.Proofs.YtaeppaaolkcbbaaGreatDoor

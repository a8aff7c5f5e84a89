/- Ranges over lex.Each. -/
import Derived.RangeFuncNested
import Derived.RangeFuncBound
import Derived.RangeFuncCalls
import Derived.RangeFuncLeaves
import Derived.Shelf.Abstract
import Derived.Shelf.RegionOpen
import Derived.WalkKit
import Derived.OwnWalkIn
import Derived.TacticsInMore
import Derived.LoopNIn
import Derived.LoopIn
import Derived.Test.YtcbifoimfhfccaaDoorLexZd
import Derived.Test.YtcbifoimfhfccaaDoorRegionIn
namespace Go.Proofs.YtcbifoimfhfccaaDoor
open Go.RowKit Go.Shelf
attribute [local go_sem] Oper.semAt_some

/-- What a round keeps: cells outside of S. -/
structure KC (S : Nat → Prop) (W W' : World) : Prop where
  size : W.heap.size ≤ W'.heap.size
  same : ∀ k o, W.heap[k]? = some o → o.isCells = true → ¬ S k → W'.heap[k]? = some o
theorem KC.trans {S : Nat → Prop} {a b c : World} (h : KC S a b) (k : KC S b c) : KC S a c :=
  ⟨Nat.le_trans h.size k.size, fun i o hi ho hs => k.same i o (h.same i o hi ho hs) ho hs⟩
theorem KC.putObj {S : Nat → Prop} (W : World) (l : Nat) (o o' : Obj) (h : W.heap[l]? = some o) (ho : o.isCells = false) : KC S W (W.putObj l o') := by
  refine ⟨by simp, fun k x hk hx _ => ?_⟩
  have hne : k ≠ l := by rintro rfl; rw [h] at hk; cases hk; rw [ho] at hx; cases hx
  rw [World.putObj_heap_other hne]; exact hk
theorem KC.setCell {S : Nat → Prop} {W0 W : World} (h : KC S W0 W) {a : Addr} (ha : S a.block) (v : Value) : KC S W0 (W.setCell a v) :=
  h.trans ⟨by simp, fun k o hk _ hs => (Below.heap_setCell W a v k (fun e => hs (e ▸ ha))).trans hk⟩
theorem KC.kb {S T : Nat → Prop} {A B C : World} (h : KC S A B) (k : KB T B C) (hs : ∀ g, T g → S g) : KC S A C :=
  h.trans ⟨k.size, fun g _o hg _ hn => k.heap (fun x => hn (hs g x)) hg⟩
theorem KC.refl (S : Nat → Prop) (W : World) : KC S W W := ⟨Nat.le_refl _, fun _ _ h _ _ => h⟩
theorem KC.cell {S : Nat → Prop} {W W' : World} (h : KC S W W') {p : Addr} {v : Value} (hn : ¬ S p.block) (hc : W.cell? p = some v) : W'.cell? p = some v := by
  cases ho : W.heap[p.block]? with
  | none => simp [World.cell?, ho] at hc
  | some o =>
    cases hcs : o.isCells with
    | false => cases o <;> simp_all [World.cell?, Obj.isCells]
    | true =>
      rw [← hc]
      exact World.cell?_of_block (w := W) ((h.same p.block o ho hcs hn).trans ho.symm)
theorem ToksAt.kc {S : Nat → Prop} {W W' : World} {a : Option Addr} {ts : List Tk} (h : ToksAt W a ts) (hk : KC S W W') (hs : ∀ g off, 0 < ts.length → a = some ⟨g, off, none⟩ → ¬ S g) : ToksAt W' a ts := by
  intro k hlt
  obtain ⟨b, off, ha, hn⟩ := h k hlt
  have hb := hs b off (by omega) ha
  exact ⟨b, off, ha, hk.cell (p := ⟨b, off + k * 4, none⟩) hb hn.k, hk.cell (p := ⟨b, off + k * 4 + 1, none⟩) hb hn.at_, hk.cell (p := ⟨b, off + k * 4 + 2, none⟩) hb hn.n, hk.cell (p := ⟨b, off + k * 4 + 3, none⟩) hb hn.s⟩
theorem ToksAt.kbS {S : Nat → Prop} {W W' : World} {a : Option Addr} {ts : List Tk} (h : ToksAt W a ts) (hk : KB S W W') (hs : ∀ g off, 0 < ts.length → a = some ⟨g, off, none⟩ → ¬ S g) : ToksAt W' a ts := by
  intro k hlt
  obtain ⟨b, off, ha, hn⟩ := h k hlt
  have hb := hs b off (by omega) ha
  exact ⟨b, off, ha, hk.cell (p := ⟨b, off + k * 4, none⟩) hb hn.k, hk.cell (p := ⟨b, off + k * 4 + 1, none⟩) hb hn.at_, hk.cell (p := ⟨b, off + k * 4 + 2, none⟩) hb hn.n, hk.cell (p := ⟨b, off + k * 4 + 3, none⟩) hb hn.s⟩
theorem abides {α : Type} {J : List α → World → Prop} {B : Nat} (hJ : AbidesFrom B J) {pre : List α} {W W' : World} (h : J pre W) (hk : KB F0 W W') : J pre W' :=
  hJ pre W W' none h ⟨hk.os, hk.tape, hk.output, hk.size, fun k hk' _ => hk.block k hk' (fun x => x)⟩ (fun r e => by cases e)
theorem rangeFuncF {F : Fence} {n : Nat} {P : Program} {α : Type} {g : Operand} {ps : Array Tmp} {assign body : Code} {Q : Exit → Act → World → Prop} {a : Act} {w : World}
    (hro : F.round = none) (h1 : 1 ≤ n) {gf : Nat} {lb : Array Value} (hg : a.eval g = .func (.func gf) #[] lb) (hFg : F.fn gf) (eg : ∀ args w, (callFunc gf args).run P w = .ok (.enter gf args) w)
    {encs : α → Array Value} {Kp : World → World → Prop} {S Sp : List α → Prop} {N : Nat} {w0 : World} (hseq : SeqStopsK F (n - 1) P gf lb encs Kp S Sp N w0)
    (hKt : ∀ {A B C : World}, Kp A B → Kp B C → Kp A C) (hKb : ∀ (W : World) (l : Nat) (o o' : Obj), w.heap.size ≤ l → W.heap[l]? = some o → o.isCells = false → o.isWalk = false → Kp W (W.putObj l o')) (hb0 : Below w0.heap.size w0 w) (hps : ∀ x, (encs x).size = ps.size)
    (I : List α → World → Prop) (Ix : Code → List α → World → Prop) (hI : OwnFrom w.heap.size I) (hIx : ∀ c, OwnFrom w.heap.size (Ix c)) (h0 : I [] w)
    (h : ∃ a₁ : α → Act, (∀ (l : Nat) (x : α) (W : World) (K : Act → World → Prop), K (a₁ x) W →
        assign.wpIn (F.inRound l) (n - 1 - 1) P (Exit.then K (fun _ _ _ => False)) { tmps := (ps.zip (encs x)).foldl (fun t (p, v) => t.setIfInBounds p v) a.tmps, defers := [] } W) ∧
      (∀ (l : Nat) (pre : List α) (x : α) (W : World), I pre W → pre.length < N → body.wpIn (F.inRound l) (n - 1 - 1) P (ownPostK Kp I Ix (pre ++ [x]) W) (a₁ x) W))
    (hdone : ∀ (D : Nat) (xs : List α) (W : World), w.heap.size ≤ D → S xs → I xs W → W.heap[D]? = some (.deferred (some [])) → Q .normal { a with defers := { target := .collected D, args := #[] } :: a.defers } W)
    (hstop : ∀ (D : Nat) (c : Code) (pre : List α) (W : World), w.heap.size ≤ D → Sp pre → Ix c pre W → W.heap[D]? = some (.deferred (some [])) → c.wpIn F n P Q { a with defers := { target := .collected D, args := #[] } :: a.defers } W) :
    (Code.rangeFunc g ps assign body).wpIn F n P Q a w := by
  obtain ⟨a₁, ha, hb⟩ := h
  exact wpIn_rangeFunc_ownF hro h1 hg hFg eg hseq hKt hKb hb0 hps I Ix hI hIx h0 a₁ ha hb hdone hstop
theorem own_heap {W W' : World} {row : Option Nat} {B : Nat} (hg : W.grownBy W' row) (hr : ∀ r, row = some r → B ≤ r ∧ ∃ o : Obj, W.heap[r]? = some o ∧ o.isCells = false)
    {k : Nat} {o : Obj} (hk : W.heap[k]? = some o) (ho : o.isCells = true) : W'.heap[k]? = some o := by
  refine (hg.block k (Array.getElem?_eq_some_iff.1 hk).1 ?_).trans hk
  intro e
  obtain ⟨_, o', ho', hc⟩ := hr k e.symm
  rw [hk] at ho'; cases ho'; rw [ho] at hc; cases hc
theorem own_kbF {w W W' : World} {row : Option Nat} {B : Nat} (h : KB F0 w W) (hB : w.heap.size ≤ B) (hg : W.grownBy W' row) (hr : ∀ r, row = some r → B ≤ r ∧ ∃ o : Obj, W.heap[r]? = some o ∧ o.isCells = false) :
    KB F0 w W' := h.grown hg (fun k e hk => by have := (hr k e).1; omega)
theorem callR {P : Program} {f : FuncId} {args : Array Value} {w : World} {m l : Nat} {R K : Ending → World → Prop} (h : Calls P f args w R) (hk : ∀ e w', R e w' → K e w') :
    (Fence.wide.inRound l).fn f ∧ CallsIn (Fence.wide.inRound l) m P f args w K := ⟨trivial, CallsIn.inRound l ((callsIn_wide.2 h).mono hk)⟩
theorem callW {P : Program} {f : FuncId} {args : Array Value} {w : World} {m : Nat} {R K : Ending → World → Prop} (h : Calls P f args w R) (hk : ∀ e w', R e w' → K e w') :
    Fence.wide.fn f ∧ CallsIn Fence.wide m P f args w K := ⟨trivial, (callsIn_wide.2 h).mono hk⟩
theorem results_cell {fn : Func} {t : Tmp} (h : fn.results = #[.cell t 4]) (tmps : Array Value) {w : World} {a : Addr} {v : Value} (ha : tmps[t]?.getD undef = .pointer (some a))
    (hc : w.cell? a = some v) : (results fn tmps).run Tryd.prog w = .ok v w := by
  simp [results, h, ha, go_sem, hc]
/-- A token, as the loop's function is handed it. -/
def encT (x : Tk) : Array Value := #[.agg #[.int .u8 (x.k : Nat), .int .i64 x.at_, .int .i64 x.n, .string x.s]]
set_option maxRecDepth 100000 in
set_option maxHeartbeats 4000000 in
theorem each1_stops (F : Fence) (n : Nat) (hn : 3 ≤ n) (hF : ∀ f, F.fn f) (hro : F.round = none) (b : Nat) (a : Option Addr) (c : Nat) (ts : List Tk) (hl : ts.length ≤ 100000) (w : World) (S : Nat → Prop)
    (hSb : ¬ S b) (hSa : ∀ g off, 0 < ts.length → a = some ⟨g, off, none⟩ → ¬ S g) (hb : w.cell? ⟨b, 0, none⟩ = some (.slice a ts.length c)) (ht : ToksAt w a ts) :
    SeqStopsK F n Tryd.prog 28 #[.pointer (some ⟨b, 0, none⟩)] encT (KC S) (fun xs => xs = ts) (fun pre => pre <+: ts) ts.length w := fun l J Jx W hW hJ hJx hY h0 => by
  have bt : W.cell? ⟨b, 0, none⟩ = some (.slice a ts.length c) := by rw [World.cell?_of_block (hW.block b (World.block_lt_of_cell? w ⟨b, 0, none⟩ hb))]; exact hb
  have htW : ToksAt W a ts := by
    intro k hlt
    obtain ⟨g, off, ha, hx⟩ := ht k hlt
    have hg : ∀ {o v}, w.cell? ⟨g, o, none⟩ = some v → W.cell? ⟨g, o, none⟩ = some v := fun {o v} h => by rw [World.cell?_of_block (hW.block g (World.block_lt_of_cell? w ⟨g, o, none⟩ h))]; exact h
    exact ⟨g, off, ha, hg hx.k, hg hx.at_, hg hx.n, hg hx.s⟩
  obtain ⟨N, hN⟩ : ∃ N, N = ts.length := ⟨_, rfl⟩
  rw [← hN] at bt hl
  have HY := Lib.hid hY
  have H0 := Lib.hid (And.intro h0 htW)
  have HS := Lib.hid hSa
  have HJ := Lib.hid hJ
  have HN := Lib.hid hN
  clear hY h0 hJ hJx hW hb ht htW hSa hSb hN
  refine callsIn_of_wp Tryd.func28 rfl (hF _) ?_ hro
  simp only [Tryd.ntmps28, List.size_toArray, List.length_cons, List.length_nil, Nat.reduceAdd, Nat.reduceSub, Array.replicate_succ, Array.replicate_zero, List.push_toArray, List.append_toArray, List.nil_append, List.cons_append]
  gi_wp2
  clear bt
  gi_loopw [7] (fun kv wr => ∃ k : Nat, k ≤ N ∧ kv = .int .i64 k ∧ J (ts.take k) wr ∧ ToksAt wr a ts) (fun kv _ => N - (intOf kv).toNat)
  case atStart => exact ⟨0, by omega, rfl, by rw [List.take_zero]; exact H0.out.1, H0.out.2⟩
  case round =>
    obtain ⟨k, hk, rfl, hJk, htr⟩ := hrel
    by_cases hlt : k < N
    · have hltd : k < ts.length := by rw [← HN.out]; exact hlt
      obtain ⟨g, off, rfl, hx⟩ := htr k hltd
      have htk := Lib.hid (take_getD (d := tk0) hltd)
      have hpl : (ts.take k).length < ts.length := by rw [List.length_take]; omega
      have hpre : Hid (ts.take (k + 1) <+: ts) := Lib.hid (List.take_prefix _ _)
      have hJ2 := fun (x : Tk) => HY.out (ts.take k) (ts.getD k tk0) (wr.alloc (.cells #[.int .u8 (x.k : Nat), .int .i64 x.at_, .int .i64 x.n, .string x.s] 32)) (abides HJ.out hJk ((KB.refl F0 wr).alloc _)) hpl
      have HY1 := Lib.hid (hJ2 (ts.getD k tk0))
      have HR := Lib.hid htr
      generalize ts.getD k tk0 = x at hx HY1 htk
      have c0 := hx.k
      have c1 := hx.at_
      have c2 := hx.n
      have c3 := hx.s
      unfold encT at HY1
      clear htr hJk hpl hJ2 hx
      obtain ⟨fn, tm, asg, bd, hy, hR⟩ := HY1.out
      gi_wp2_with fail
      refine ⟨fun _ => by omega, hR.mono ?_⟩
      rintro e W3 (⟨rfl, hJ3, hk3⟩ | ⟨rfl, hJx3⟩)
      · have H3 := Lib.hid (And.intro hJ3 (ToksAt.kc (HR.out.kbF ((KB.refl F0 wr).alloc _)) hk3 HS.out))
        clear hJ3 hk3 c0 c1 c2 c3
        gi_wp2_with fail
        go_roundw
        case rel => exact ⟨k + 1, by omega, by go_num, by rw [htk.out]; exact H3.out.1, H3.out.2⟩
        case measure => simp [intOf]; omega
      · have H3 := Lib.hid hJx3
        clear hJx3 c0 c1 c2 c3
        gi_wp2_with fail
        refine bodyPost_ret (results_none rfl _ _ _) rfl ?_
        have hp2 := hpre.out
        rw [htk.out] at hp2
        exact ⟨⟨_, rfl⟩, .inr ⟨_, hp2, H3.out⟩⟩
    · obtain rfl : k = N := by omega
      have hJ2 := Lib.hid hJk
      clear hJk htr
      gi_wp2_with fail
      go_end0
      refine ⟨⟨_, rfl⟩, .inl ⟨_, rfl, ?_⟩⟩
      have h := hJ2.out
      rw [List.take_of_length_le (by rw [← HN.out]; exact Nat.le_refl _)] at h
      exact h
end Go.Proofs.YtcbifoimfhfccaaDoor

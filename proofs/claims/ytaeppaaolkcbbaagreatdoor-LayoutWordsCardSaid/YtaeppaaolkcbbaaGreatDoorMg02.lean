/- The steps of 'wp_region_text', one lemma each. Slices that a call makes itself: small facts beside 'ownsRow'. 'wp_region_text' (a region that draws its order, in the text's order) within the wide fence, in a round's frame or not. Drawn regions whose operations may make memory: what was there stays (KB). Blocks: small facts. Types in memory: api.Type, lists of types, fields, structs. types.look. -/
import Derived.Test.YtaeppaaolkcbbaaGreatDoorMg01
import Derived.Test.YtaeppaaolkcbbaaGreatDoorRows
import Derived.OrdersIn
import Derived.TacticsIn
import Derived.RangeFuncCalls
import Derived.OwnWalkIn
import Derived.Test.YtaeppaaolkcbbaaGreatDoorMg00
import Derived.Deep.DeepCutAuto
namespace Go.Proofs.YtaeppaaolkcbbaaGreatDoor
open Go Go.RowKit

section
variable {P : Program} {ops : Array Oper} {G : World → World → Prop} {w0 : World} {kind : Nat → OKind} {bef : Nat → Nat → Bool} {T : Act → World → Prop}
 {o : Oper} {rest : List Oper} {i : Nat} {a : Act} {H : List (Nat × (World → Prop))}

theorem rvc_det {v : Value} (hw : Region.wanted o (yielded ops a.tmps) = true) (hk : kind i = .det)
  (hrun : ∀ w, G w0 w → (∀ p ∈ H, bef i p.1 = true → p.2 w) → (execOp a.eval o).run P w = .ok (.value v) w)
  (h : rvc P ops G w0 kind bef T rest (i + 1) (fun _ => none) (a.put o.dst v) H) : rvc P ops G w0 kind bef T (o :: rest) i (fun _ => none) a H := by
 simp only [rvc, hw, if_true, hk]; exact ⟨v, hrun, h⟩
theorem rvc_skip (hw : Region.wanted o (yielded ops a.tmps) = false)
  (h : rvc P ops G w0 kind bef T rest (i + 1) (fun _ => none) (a.put o.dst undef) H) : rvc P ops G w0 kind bef T (o :: rest) i (fun _ => none) a H := by
 simp only [rvc, hw]; exact h
theorem rvc_rel {Fp : List Value → Value → Prop} {Fw : List Value → Value → World → Prop} (hw : Region.wanted o (yielded ops a.tmps) = true) (hk : kind i = .rel Fp Fw)
  (hex : ∃ v, Fp (opArgs o a) v)
  (hrun : ∀ w, G w0 w → (∀ p ∈ H, bef i p.1 = true → p.2 w) → OpVal P o a w (fun v w' => Fp (opArgs o a) v ∧ G w w' ∧ Fw (opArgs o a) v w'))
  (h : ∀ v, Fp (opArgs o a) v → rvc P ops G w0 kind bef T rest (i + 1) (fun _ => none) (a.put o.dst v) ((i, Fw (opArgs o a) v) :: H)) :
  rvc P ops G w0 kind bef T (o :: rest) i (fun _ => none) a H := by
 simp only [rvc, hw, if_true, hk]; exact ⟨hex, hrun, h⟩

theorem opVal_call {f : FuncId} {vs : Array Value} {w w1 : World} {ψ : Value → World → Prop} (hr : (execOp a.eval o).run P w = .ok (.enter f vs) w1)
  (h : Calls P f vs w1 (fun e w'' => ∃ v, e = .returned v ∧ ψ v w'')) : OpVal P o a w ψ := by
 unfold OpVal; rw [hr]; exact h
theorem opVal_value {v : Value} {w w' : World} {ψ : Value → World → Prop} (hr : (execOp a.eval o).run P w = .ok (.value v) w') (h : ψ v w') : OpVal P o a w ψ := by
 unfold OpVal; rw [hr]; exact h
end

def GQ (w w' : World) : Prop := ∃ n, w' = w.drewN n
theorem drewN_drewN (w : World) (n m : Nat) : (w.drewN n).drewN m = w.drewN (n + m) := by simp [World.drewN, Nat.add_assoc]
theorem GQ.trans : ∀ a b c, GQ a b → GQ b c → GQ a c := fun _ _ _ ⟨n, hn⟩ ⟨m, hm⟩ => ⟨n + m, by rw [hm, hn, drewN_drewN]⟩
theorem GQ.refl : ∀ a, GQ a a := fun _ => ⟨0, rfl⟩
theorem GQ.start (w : World) : GQ w w.drew := ⟨1, rfl⟩
theorem GQ.cell {w w' : World} (h : GQ w w') (a : Addr) : w'.cell? a = w.cell? a := by obtain ⟨n, rfl⟩ := h; rfl
theorem kb_trans (S : Nat → Prop) : ∀ a b c, KB S a b → KB S b c → KB S a c := fun _ _ _ h k => h.trans k
theorem kb_refl (S : Nat → Prop) : ∀ a, KB S a a := KB.refl S
theorem kb_start (S : Nat → Prop) (w : World) : KB S w w.drew := (KB.refl S w).drew

def kindV (l : List (Nat × (Value → Prop))) (i : Nat) : OKind :=
 match l.find? (fun p => p.1 == i) with
 | some p => .rel (fun _ v => p.2 v) (fun _ _ _ => True)
 | none => .det
theorem kindV_mono {G : World → World → Prop} (l : List (Nat × (Value → Prop))) : ∀ i Fp Fw, kindV l i = .rel Fp Fw → ∀ xs v a b, G a b → Fw xs v a → Fw xs v b := by
 intro i Fp Fw h xs v a b _ hf
 unfold kindV at h
 split at h
 ·cases h; exact trivial
 ·cases h
@[go_sem] theorem wrap_lit0 : IntKind.i64.wrap 0 = 0 := by decide
@[go_sem] theorem wrap_lit1 : IntKind.i64.wrap 1 = 1 := by decide
@[go_sem] theorem wrap_lit2 : IntKind.i64.wrap 2 = 2 := by decide
@[go_sem] theorem wrap_lit3 : IntKind.i64.wrap 3 = 3 := by decide
@[go_sem] theorem wrap_lit4 : IntKind.i64.wrap 4 = 4 := by decide
@[go_sem] theorem wrap_lit5 : IntKind.i64.wrap 5 = 5 := by decide
@[go_sem] theorem wrap_lit6 : IntKind.i64.wrap 6 = 6 := by decide
@[go_sem] theorem wrap_lit7 : IntKind.i64.wrap 7 = 7 := by decide
@[go_sem] theorem wrap_lit8 : IntKind.i64.wrap 8 = 8 := by decide
@[go_sem] theorem wrap_lit9 : IntKind.i64.wrap 9 = 9 := by decide
@[go_sem] theorem wrap_lit10 : IntKind.i64.wrap 10 = 10 := by decide
@[go_sem] theorem wrap_lit11 : IntKind.i64.wrap 11 = 11 := by decide
@[go_sem] theorem wrap_lit12 : IntKind.i64.wrap 12 = 12 := by decide
@[go_sem] theorem wrap_lit13 : IntKind.i64.wrap 13 = 13 := by decide
@[go_sem] theorem wrap_lit14 : IntKind.i64.wrap 14 = 14 := by decide
@[go_sem] theorem wrap_lit15 : IntKind.i64.wrap 15 = 15 := by decide
@[go_sem] theorem wrap_lit16 : IntKind.i64.wrap 16 = 16 := by decide
@[go_sem] theorem wrap_lit24 : IntKind.i64.wrap 24 = 24 := by decide
@[go_sem] theorem wrap_lit32 : IntKind.i64.wrap 32 = 32 := by decide
@[go_sem] theorem wrap_lit48 : IntKind.i64.wrap 48 = 48 := by decide
@[go_sem] theorem wrap_lit63 : IntKind.i64.wrap 63 = 63 := by decide
@[go_sem] theorem wrap_lit64 : IntKind.i64.wrap 64 = 64 := by decide
@[go_sem] theorem wrap_lit128 : IntKind.i64.wrap 128 = 128 := by decide
@[go_sem] theorem wrap_lit255 : IntKind.i64.wrap 255 = 255 := by decide
@[go_sem] theorem wrap_lit256 : IntKind.i64.wrap 256 = 256 := by decide
@[go_sem] theorem wrap_lit512 : IntKind.i64.wrap 512 = 512 := by decide
@[go_sem] theorem wrap_lit1024 : IntKind.i64.wrap 1024 = 1024 := by decide
@[go_sem] theorem wrap_lit2048 : IntKind.i64.wrap 2048 = 2048 := by decide
@[go_sem] theorem wrap_lit4096 : IntKind.i64.wrap 4096 = 4096 := by decide
@[go_sem] theorem wrap_lit8192 : IntKind.i64.wrap 8192 = 8192 := by decide
@[go_sem] theorem wrap_lit16384 : IntKind.i64.wrap 16384 = 16384 := by decide
@[go_sem] theorem wrap_lit32768 : IntKind.i64.wrap 32768 = 32768 := by decide
@[go_sem] theorem wrap_lit65536 : IntKind.i64.wrap 65536 = 65536 := by decide
@[go_sem] theorem wrap_litm1 : IntKind.i64.wrap (-1) = -1 := by decide

structure Stopped (p : Prop) : Prop where
 out : p
theorem KB.grown {S : Nat → Prop} {w0 w w' : World} {row : Option Nat} (h : KB S w0 w) (hg : w.grownBy w' row) (hr : ∀ k, row = some k → k < w0.heap.size → S k) : KB S w0 w' :=
 ⟨hg.os.trans h.os, hg.tape.trans h.tape, hg.output.trans h.output, Nat.le_trans h.size hg.size, fun k hk hn =>
  (hg.block k (Nat.lt_of_lt_of_le hk h.size) (fun e => hn (hr k e.symm hk))).trans (h.block k hk hn)⟩
theorem own_kb {w w' : World} {base : Nat} {e : TypeId} {size : Nat} {v : Value} {n : Nat} {xs : List Value} (h : w.ownsRow base e size v n xs) {S : Nat → Prop} (hk : KB S w w')
  (hs : ∀ k, v.ownBlock = some k → ¬ S k) : w'.ownsRow base e size v n xs := by
 obtain ⟨h1, h2⟩ := h
 refine ⟨h1, ?_⟩
 rcases h2 with h2 | ⟨g, cap, cur, hv, hg, hh, r⟩
 ·exact Or.inl h2
 ·exact Or.inr ⟨g, cap, cur, hv, hg, hk.heap (hs g (by rw [hv]; rfl)) hh, r⟩
theorem own_shape {w : World} {base : Nat} {e : TypeId} {size : Nat} {v : Value} {n : Nat} {xs : List Value} (h : w.ownsRow base e size v n xs) :
  ∃ a cap, v = .slice a n cap ∧ n ≤ cap ∧ cap ≤ maxLen ∧ (∀ k, k < n * size → ∃ g, a = some ⟨g, 0, none⟩ ∧ base ≤ g ∧ w.cell? ⟨g, k, none⟩ = xs[k]?) ∧ (a = none ∨ ∃ g, a = some ⟨g, 0, none⟩ ∧ base ≤ g) := by
 obtain ⟨h1, h2⟩ := h
 rcases h2 with ⟨hv, hn⟩ | ⟨g, cap, cur, hv, hg, hh, hcap, hm, hsz, hx⟩
 ·subst hn; exact ⟨none, 0, hv, Nat.le_refl _, by decide, fun k hk => by omega, Or.inl rfl⟩
 ·refine ⟨_, cap, hv, hcap, hm, fun k hk => ⟨g, rfl, hg, ?_⟩, Or.inr ⟨g, rfl, hg⟩⟩
  simp only [World.cell?, hh]
  rw [← hx]
  simp [hk]
theorem app1 {P : Program} {ops : Array Oper} {rest : List Oper} {o : Oper} {a : Act} {Q : Exit → Act → World → Prop} {w : World} (t e : TypeId) (base : Nat) (u : Value) {z : Value} {bytes : Nat}
  (hinfo : (P.info? e).map (fun i => (i.zero, i.size, i.bytes)) = some (some z, 1, bytes)) (ht : P.underlying t = some (.slice e)) (hz : z.cells.size = 1)
  {v : Value} {n : Nat} {xs : List Value} (hown : w.ownsRow base e 1 v n xs) {s x : Operand} {nb c : Nat} (hgd : o.guard = none)
  (ho : o.op = .call { callee := .builtin .append, args := #[s, x], argTypes := #[t, t] }) (hs : a.eval s = v)
  (hx : a.eval x = .slice (some ⟨nb, 0, none⟩) 1 c) (hu : w.cell? ⟨nb, 0, none⟩ = some u) (h1 : u.oneCell' = true) (h63 : n + 1 ≤ maxLen) (hbytes : (n + 1) * bytes ≤ 140737488355328) (hbase : base ≤ w.heap.size)
  (h : ∀ v' w', w'.ownsRow base e 1 v' (n + 1) (xs ++ [u]) → w.grownBy w' v.ownBlock → wpList P ops Q rest (a.put o.dst v') w') : wpList P ops Q (o :: rest) a w := by
 obtain ⟨i, hi, hz0, hz1, hz2⟩ := info_parts hinfo
 refine wpList_append_own w hgd s x t ho base e i z 1 bytes ht hi hz0 hz1 hz2 hz (by decide) v n xs hs hown ⟨nb, 0, none⟩ 1 c [u] hx rfl ?_ ?_ h63 hbytes hbase (fun v' w' h2 h3 _ => h v' w' h2 h3)
 ·intro j y hj
  cases j with
  | zero => simp at hj; subst hj; simpa [Addr.add] using hu
  | succ j => simp at hj
 ·intro y hy; simp at hy; subst hy; exact h1
theorem Tryz.infoInt : (Tryz.prog.info? 3).map (fun i => (i.zero, i.size, i.bytes)) = some (some (.int .i64 0), 1, 8) := by kernel_rfl
open Go

section
variable {P : Program} {ops : Array Oper} {G : World → World → Prop} {w0 : World} {kind : Nat → OKind} {Q : Exit → Act → World → Prop} {t : Nat} {F : Fence} {n : Nat}

end

structure RV (P : Program) (ops : Array Oper) (G : World → World → Prop) (w0 : World) (kind : Nat → OKind) (bef : Nat → Nat → Bool) (T : Act → World → Prop)
  (rest : List Oper) (i : Nat) (a : Act) (H : List (Nat × (World → Prop))) : Prop where
 out : rvc P ops G w0 kind bef T rest i (fun _ => none) a H

section
variable {P : Program} {ops : Array Oper} {G : World → World → Prop} {w0 : World} {kind : Nat → OKind} {bef : Nat → Nat → Bool} {T : Act → World → Prop}
 {o : Oper} {rest : List Oper} {i : Nat} {a : Act} {H : List (Nat × (World → Prop))}
theorem rv_nil (h : ∀ w, G w0 w → (∀ p ∈ H, p.2 w) → T a w) : RV P ops G w0 kind bef T [] i a H := ⟨h⟩
theorem rv_det {v : Value} (hw : Region.wanted o (yielded ops a.tmps) = true) (hk : kind i = .det)
  (hrun : ∀ w, G w0 w → (∀ p ∈ H, bef i p.1 = true → p.2 w) → (execOp a.eval o).run P w = .ok (.value v) w)
  (h : RV P ops G w0 kind bef T rest (i + 1) (a.put o.dst v) H) : RV P ops G w0 kind bef T (o :: rest) i a H := ⟨rvc_det hw hk hrun h.out⟩
theorem rv_skip (hw : Region.wanted o (yielded ops a.tmps) = false)
  (h : RV P ops G w0 kind bef T rest (i + 1) (a.put o.dst undef) H) : RV P ops G w0 kind bef T (o :: rest) i a H := ⟨rvc_skip hw h.out⟩
theorem rv_rel {Fp : List Value → Value → Prop} {Fw : List Value → Value → World → Prop} (hw : Region.wanted o (yielded ops a.tmps) = true) (hk : kind i = .rel Fp Fw)
  (hex : ∃ v, Fp (opArgs o a) v)
  (hrun : ∀ w, G w0 w → (∀ p ∈ H, bef i p.1 = true → p.2 w) → OpVal P o a w (fun v w' => Fp (opArgs o a) v ∧ G w w' ∧ Fw (opArgs o a) v w'))
  (h : ∀ v, Fp (opArgs o a) v → RV P ops G w0 kind bef T rest (i + 1) (a.put o.dst v) ((i, Fw (opArgs o a) v) :: H)) :
  RV P ops G w0 kind bef T (o :: rest) i a H := ⟨rvc_rel hw hk hex hrun fun v hv => (h v hv).out⟩
end

section
variable {P : Program} {ops : Array Oper} {G : World → World → Prop} {w0 : World} {kind : Nat → OKind} {Q : Exit → Act → World → Prop} {F : Fence} {n : Nat}
theorem wp_region_rv {id : Nat} {a : Act} (t : Nat) (G : World → World → Prop) (kind : Nat → OKind) (hm : P.follows .mixedOrders = true) (hok : regOK ops t = true)
  (hG : ∀ a b c, G a b → G b c → G a c) (hGr : ∀ a, G a a) (hd : G w0 w0.drew) (hmono : ∀ i Fp Fw, kind i = .rel Fp Fw → ∀ xs v a b, G a b → Fw xs v a → Fw xs v b)
  (h : RV P ops G w0 kind (befOf ops) (wpList P ops Q (ops.toList.drop t)) (ops.toList.take t) 0 a []) :
  (Code.region id ops true).wp P Q a w0 := wp_region_text t G kind hm hok hG hGr hd hmono h.out
end
open Go.RowKit

abbrev GK : World → World → Prop := KB (fun _ => False)
def kindW (l : List (Nat × (Value → Prop) × (Value → World → Prop))) (i : Nat) : OKind :=
 match l.find? (fun p => p.1 == i) with
 | some p => .rel (fun _ v => p.2.1 v) (fun _ v w => p.2.2 v w)
 | none => .det
def Lasts (φ : Value → World → Prop) : Prop := ∀ v a b, GK a b → φ v a → φ v b
theorem kindW_mono (l : List (Nat × (Value → Prop) × (Value → World → Prop))) (hl : ∀ p ∈ l, Lasts p.2.2) : ∀ i Fp Fw, kindW l i = .rel Fp Fw → ∀ xs v a b, GK a b → Fw xs v a → Fw xs v b := by
 intro i Fp Fw h xs v a b hG hf
 unfold kindW at h
 split at h
 ·rename_i p hp
  cases h
  exact hl p (List.mem_of_find?_eq_some hp) v a b hG hf
 ·cases h
theorem lasts_true : Lasts (fun _ _ => True) := fun _ _ _ _ _ => trivial
def OneRow (B : Nat) (_cs : Array Value) (_t : TypeId) (v : Value) : Prop := ∃ nb, v = .slice (some ⟨nb, 0, none⟩) 1 1 ∧ B ≤ nb
def OneRowAt (B : Nat) (cs : Array Value) (t : TypeId) (v : Value) (w : World) : Prop := ∃ nb, v = .slice (some ⟨nb, 0, none⟩) 1 1 ∧ B ≤ nb ∧ w.heap[nb]? = some (.cells cs t (0, 0))
theorem lasts_row (B : Nat) (cs : Array Value) (t : TypeId) : Lasts (OneRowAt B cs t) := fun _ _ _ hG ⟨nb, h1, h2, h3⟩ => ⟨nb, h1, h2, hG.heap (fun x => x) h3⟩
theorem opVal_row {P : Program} {o : Oper} {a : Act} {w w0 : World} {cs : Array Value} {t : TypeId} (hG : GK w0 w)
  (hr : (execOp a.eval o).run P w = .ok (.value (.slice (some ⟨w.heap.size, 0, none⟩) 1 1)) (w.alloc (.cells cs t))) :
  OpVal P o a w (fun v w' => OneRow w0.heap.size cs t v ∧ GK w w' ∧ OneRowAt w0.heap.size cs t v w') :=
 opVal_value hr ⟨⟨_, rfl, hG.size⟩, (KB.refl _ w).alloc _, ⟨_, rfl, hG.size, alloc_new w _⟩⟩

theorem cells_of_block {w : World} {nb : Nat} {us : List Value} {t : TypeId} (h : w.heap[nb]? = some (.cells us.toArray t (0, 0))) : ∀ j u, us[j]? = some u → w.cell? ((⟨nb, 0, none⟩ : Addr).add j) = some u := by
 intro j u hj
 rw [show ((⟨nb, 0, none⟩ : Addr).add j) = ⟨nb, j, none⟩ by unfold Addr.add; split <;> simp_all]
 simp only [World.cell?, h]
 simpa using hj

abbrev F0 : Nat → Prop := fun _ => False
theorem blk_cell {w : World} {g : Nat} {cs : Array Value} {t : TypeId} (h : w.heap[g]? = some (.cells cs t (0, 0))) (i : Nat) : w.cell? ⟨g, i, none⟩ = cs[i]? := by
 simp only [World.cell?, h]; rfl
theorem blk_frozen {w : World} {g : Nat} {cs : Array Value} {t : TypeId} (h : w.heap[g]? = some (.cells cs t (0, 0))) (i : Nat) : w.frozen? ⟨g, i, none⟩ = false := by
 simp [World.frozen?, h]
theorem setCell_blk {w : World} {g i : Nat} {cs : Array Value} {t : TypeId} (h : w.heap[g]? = some (.cells cs t (0, 0))) (u : Value) : (w.setCell ⟨g, i, none⟩ u).heap[g]? = some (.cells (cs.setIfInBounds i u) t (0, 0)) := by
 simp [World.setCell, Array.getElem?_modify, h]
theorem kb_set (w : World) (g i : Nat) (u : Value) : KB (fun k => k = g) w (w.setCell ⟨g, i, none⟩ u) := (KB.refl (fun k => k = g) w).setCell (p := ⟨g, i, none⟩) (fun _ => rfl) u
theorem own_block {w : World} {B : Nat} {e : TypeId} {size : Nat} {v : Value} {n : Nat} {xs : List Value} (h : w.ownsRow B e size v n xs) {g : Nat} (hg : v.ownBlock = some g) : ∃ cur, w.heap[g]? = some (.cells cur e (0, 0)) ∧ B ≤ g := by
 obtain ⟨h1, h2⟩ := h
 rcases h2 with ⟨rfl, -⟩ | ⟨g', cap, cur, rfl, hb, hh, -⟩
 ·cases hg
 ·simp [Value.ownBlock] at hg; subst hg; exact ⟨cur, hh, hb⟩
theorem heap_ltc {w : World} {p : Addr} {v : Value} (h : w.cell? p = some v) : p.block < w.heap.size := World.block_lt_of_cell? w p h
theorem own_base {w : World} {B B' : Nat} {e : TypeId} {size : Nat} {v : Value} {n : Nat} {xs : List Value} (h : w.ownsRow B e size v n xs) (_hb : B' ≤ B) : w.ownsRow B' e size v n xs := by
 obtain ⟨h1, h2⟩ := h
 refine ⟨h1, ?_⟩
 rcases h2 with h2 | ⟨g, cap, cur, hv, hg, r⟩
 ·exact Or.inl h2
 ·exact Or.inr ⟨g, cap, cur, hv, by omega, r⟩

def tyV (t : Ty) (a : Option Addr) (c : Nat) : Value := .agg #[.int .u8 t.k, .bool t.m, .int .i64 t.r, .int .i64 t.s, .slice a t.of.length c]
structure TyCells (w : World) (b o : Nat) (t : Ty) (a : Option Addr) (c : Nat) : Prop where
 k : w.cell? ⟨b, o, none⟩ = some (.int .u8 t.k)
 m : w.cell? ⟨b, o + 1, none⟩ = some (.bool t.m)
 r : w.cell? ⟨b, o + 2, none⟩ = some (.int .i64 t.r)
 s : w.cell? ⟨b, o + 3, none⟩ = some (.int .i64 t.s)
 of : w.cell? ⟨b, o + 4, none⟩ = some (.slice a t.of.length c)
theorem TyCells.kbF {w w' : World} {b o : Nat} {t : Ty} {a : Option Addr} {c : Nat} (h : TyCells w b o t a c) (hk : KB F0 w w') : TyCells w' b o t a c :=
 ⟨hk.cell (p := ⟨b, o, none⟩) (fun x => x) h.k, hk.cell (p := ⟨b, o + 1, none⟩) (fun x => x) h.m, hk.cell (p := ⟨b, o + 2, none⟩) (fun x => x) h.r, hk.cell (p := ⟨b, o + 3, none⟩) (fun x => x) h.s, hk.cell (p := ⟨b, o + 4, none⟩) (fun x => x) h.of⟩
theorem TyCells.of_block {w : World} {b : Nat} {t : Ty} {a : Option Addr} {c : Nat} {ty : TypeId} (h : w.heap[b]? = some (.cells #[.int .u8 t.k, .bool t.m, .int .i64 t.r, .int .i64 t.s, .slice a t.of.length c] ty (0, 0))) : TyCells w b 0 t a c :=
 ⟨blk_cell h 0, blk_cell h 1, blk_cell h 2, blk_cell h 3, blk_cell h 4⟩
def TyAt : Nat → World → Ty → Option Addr → Nat → Prop
 | 0, _, _, _, _ => True
 | n + 1, w, t, a, c => t.of.length ≤ c ∧ ∀ i, i < t.of.length → ∃ b o a' c', a = some ⟨b, o, none⟩ ∧ TyCells w b (o + i * 5) (t.of.getD i ty0) a' c' ∧ TyAt n w (t.of.getD i ty0) a' c'
theorem TyAt.kbF {w w' : World} (hk : KB F0 w w') : ∀ {n : Nat} {t : Ty} {a : Option Addr} {c : Nat}, TyAt n w t a c → TyAt n w' t a c := by
 intro n
 induction n with
 | zero => intro t a c _; trivial
 | succ n ih =>
  intro t a c h
  refine ⟨h.1, fun i hi => ?_⟩
  obtain ⟨b, o, a', c', e, h1, h2⟩ := h.2 i hi
  exact ⟨b, o, a', c', e, h1.kbF hk, ih h2⟩
theorem TyAt.le {w : World} : ∀ {n m : Nat} {t : Ty} {a : Option Addr} {c : Nat}, TyAt n w t a c → m ≤ n → TyAt m w t a c := by
 intro n
 induction n with
 | zero => intro m t a c _ hm; obtain rfl : m = 0 := by omega
           trivial
 | succ n ih =>
  intro m t a c h hm
  cases m with
  | zero => trivial
  | succ m =>
   refine ⟨h.1, fun i hi => ?_⟩
   obtain ⟨b, o, a', c', e, h1, h2⟩ := h.2 i hi
   exact ⟨b, o, a', c', e, h1, ih h2 (by omega)⟩
theorem TyAt.in0 {w : World} {n : Nat} {t : Ty} {a : Option Addr} {c : Nat} (h : TyAt (n + 1) w t a c) (hl : 0 < t.of.length) : ∃ b o a' c', a = some ⟨b, o, none⟩ ∧ TyCells w b o (in0 t) a' c' ∧ TyAt n w (in0 t) a' c' := by
 obtain ⟨b, o, a', c', e, h1, h2⟩ := h.2 0 hl
 rw [Nat.zero_mul, Nat.add_zero] at h1
 exact ⟨b, o, a', c', e, h1, h2⟩
def TysAt (n : Nat) (w : World) (a : Option Addr) (l : List Ty) : Prop := ∀ i, i < l.length → ∃ b o a' c', a = some ⟨b, o, none⟩ ∧ TyCells w b (o + i * 5) (l.getD i ty0) a' c' ∧ TyAt n w (l.getD i ty0) a' c'
def FdsAt (n : Nat) (w : World) (a : Option Addr) (l : List Ty) : Prop := ∀ i, i < l.length → ∃ b o nm a' c', a = some ⟨b, o, none⟩ ∧ w.cell? ⟨b, o + i * 6, none⟩ = some (.string nm) ∧ TyCells w b (o + i * 6 + 1) (l.getD i ty0) a' c' ∧ TyAt n w (l.getD i ty0) a' c'
def StsAt (n : Nat) (w : World) (a : Option Addr) (S : List (List Ty)) : Prop := ∀ i, i < S.length → ∃ b o nm fa fc, a = some ⟨b, o, none⟩ ∧ w.cell? ⟨b, o + i * 2, none⟩ = some (.string nm) ∧ w.cell? ⟨b, o + i * 2 + 1, none⟩ = some (.slice fa (S.getD i []).length fc) ∧ (S.getD i []).length ≤ fc ∧ FdsAt n w fa (S.getD i [])
section
variable {n : Nat} {w w' : World} {a : Option Addr}
theorem TysAt.kbF {l : List Ty} (h : TysAt n w a l) (hk : KB F0 w w') : TysAt n w' a l := fun i hi => by
 obtain ⟨b, o, a', c', e, h1, h2⟩ := h i hi
 exact ⟨b, o, a', c', e, h1.kbF hk, h2.kbF hk⟩
theorem FdsAt.kbF {l : List Ty} (h : FdsAt n w a l) (hk : KB F0 w w') : FdsAt n w' a l := fun i hi => by
 obtain ⟨b, o, nm, a', c', e, h0, h1, h2⟩ := h i hi
 exact ⟨b, o, nm, a', c', e, hk.cell (p := ⟨b, o + i * 6, none⟩) (fun x => x) h0, h1.kbF hk, h2.kbF hk⟩
theorem StsAt.kbF {S : List (List Ty)} (h : StsAt n w a S) (hk : KB F0 w w') : StsAt n w' a S := fun i hi => by
 obtain ⟨b, o, nm, fa, fc, e, h0, h1, h2, h3⟩ := h i hi
 exact ⟨b, o, nm, fa, fc, e, hk.cell (p := ⟨b, o + i * 2, none⟩) (fun x => x) h0, hk.cell (p := ⟨b, o + i * 2 + 1, none⟩) (fun x => x) h1, h2, h3.kbF hk⟩
end
theorem look_zero (S : Nat) (t : Ty) : lookB S 0 t = false := rfl

theorem boxTy (w : World) (t : Ty) (a : Option Addr) (c : Nat) : KB F0 w (w.alloc (.cells #[.int .u8 t.k, .bool t.m, .int .i64 t.r, .int .i64 t.s, .slice a t.of.length c] 26)) ∧
  (w.alloc (.cells #[.int .u8 t.k, .bool t.m, .int .i64 t.r, .int .i64 t.s, .slice a t.of.length c] 26)).heap[w.heap.size]? = some (.cells #[.int .u8 t.k, .bool t.m, .int .i64 t.r, .int .i64 t.s, .slice a t.of.length c] 26 (0, 0)) :=
 ⟨(KB.refl _ _).alloc _, alloc_new _ _⟩
set_option maxRecDepth 100000 in
set_option maxHeartbeats 16000000 in
theorem look_any (S : Nat) : ∀ n : Nat, n ≤ 100 → ∀ (t : Ty) (a : Option Addr) (c : Nat) (w : World), TyAt (n + 1) w t a c →
  Calls Tryz.prog 60 #[tyV t a c, .int .i64 S, .int .i64 n] w fun e w' => e = .returned (.bool (lookB S n t)) ∧ KB F0 w w' := by
 intro n
 induction n with
 | zero =>
  intro _ t a c w _
  obtain ⟨w0, rfl⟩ : ∃ w0, w0 = w := ⟨_, rfl⟩
  obtain ⟨W, hW⟩ : ∃ W, W = w0.alloc (.cells #[.int .u8 t.k, .bool t.m, .int .i64 t.r, .int .i64 t.s, .slice a t.of.length c] 26) := ⟨_, rfl⟩
  obtain ⟨kb, hb⟩ := boxTy w0 t a c
  rw [← hW] at kb hb
  have HB := Lib.hid (And.intro kb hb)
  have HW := Lib.hid hW
  clear kb hb hW
  unfold tyV
  go_enter Tryz.func60, Tryz.ntmps60
  go_wp2_with fail
  go_ret
  exact ⟨rfl, by rw [← HW.out]; exact HB.out.1⟩
 | succ n ih =>
  intro hn t a c w h
  obtain ⟨w0, rfl⟩ : ∃ w0, w0 = w := ⟨_, rfl⟩
  obtain ⟨W, hW⟩ : ∃ W, W = w0.alloc (.cells #[.int .u8 t.k, .bool t.m, .int .i64 t.r, .int .i64 t.s, .slice a t.of.length c] 26) := ⟨_, rfl⟩
  obtain ⟨kb, hb⟩ := boxTy w0 t a c
  rw [← hW] at kb hb
  have hw := h.kbF kb
  have HB := Lib.hid (And.intro kb hb)
  have HW := Lib.hid hW
  have tc := TyCells.of_block hb
  rw [lookB_succ]
  obtain ⟨hc0, hc1, hc2, hc3, hc4⟩ := tc
  simp only [Nat.zero_add] at hc0 hc1 hc2 hc3 hc4
  have hLc : t.of.length ≤ c := hw.1
  have hw1 : IntKind.i64.wrap (((n + 1 : Nat) : Int) - 1) = (n : Int) := by rw [w64 (by omega) (by omega)]; omega
  have ht0 : (((n + 1 : Nat) : Int) == 0) = false := by simp; omega
  unfold tyV
  by_cases hl : t.of.length = 1
  ·have hl0 : 0 < t.of.length := by omega
   obtain ⟨b, o, a', c', rfl, ic, iw⟩ := hw.in0 hl0
   have LK := fun (V : World) (hk : KB F0 W V) => ih (by omega) (in0 t) a' c' V (iw.kbF hk)
   unfold tyV at LK
   obtain ⟨i0, i1, i2, i3, i4⟩ := ic
   have h1c : (1 : Int) ≤ (c : Int) := by omega
   rw [decide_eq_true hl, Bool.true_and]
   generalize lookB S n (in0 t) = q at LK ⊢
   generalize in0 t = u at LK i0 i1 i2 i3 i4
   obtain ⟨R, hR⟩ : ∃ R, R = lookV S t.k t.m t.r t.s t.of.length q := ⟨_, rfl⟩
   rw [← hR]
   rw [hl] at HB HW hc4 hR ⊢
   have LK2 := Lib.hid LK
   clear hw h ih LK iw kb hb hW hl hl0 hLc
   generalize t.k = k at *
   generalize t.m = m at *
   generalize t.r = rg at *
   generalize t.s = st at *
   have HR := Lib.hid hR
   clear hR
   go_enter Tryz.func60, Tryz.ntmps60
   go_upto_region 1 with fail
   rw [← HW.out]
   go_wp2_with fail
   refine (LK2.out _ (KB.refl _ _)).mono ?_
   rintro e w1 ⟨rfl, k1⟩
   have hb := k1.heap (fun x => x) HB.out.2
   have d0 : w1.cell? ⟨w0.heap.size, 0, none⟩ = some (.int .u8 k) := blk_cell hb 0
   have d1 : w1.cell? ⟨w0.heap.size, 1, none⟩ = some (.bool m) := blk_cell hb 1
   have d2 : w1.cell? ⟨w0.heap.size, 2, none⟩ = some (.int .i64 rg) := blk_cell hb 2
   have d3 : w1.cell? ⟨w0.heap.size, 3, none⟩ = some (.int .i64 st) := blk_cell hb 3
   have d4 : w1.cell? ⟨w0.heap.size, 4, none⟩ = some (.slice (some ⟨b, o, none⟩) 1 c) := blk_cell hb 4
   have KX := Lib.hid (HB.out.1.trans k1)
   clear hc0 hc1 hc2 hc3 hc4 i0 i1 i2 i3 i4 k1 hb
   go_wp2_with fail
   all_goals
    go_ret
    refine ⟨ret_eq (congrArg Value.bool ?_), KX.out⟩
    rw [HR.out]
    clear HR KX HB HW LK2 d0 d1 d2 d3 d4 hw1 ht0 h1c
    unfold lookV
    simp_all
    try (first | omega | (intro h1 h2; omega) | (intro h1; omega) | (rw [Bool.eq_iff_iff]; simp; omega) | (rw [Bool.eq_iff_iff]; simp; done))
  ·have hl1 : ((t.of.length : Int) == 1) = false := by simp; omega
   rw [decide_eq_false hl, Bool.false_and]
   obtain ⟨L, hL⟩ : ∃ L, L = t.of.length := ⟨_, rfl⟩
   obtain ⟨R, hR⟩ : ∃ R, R = lookV S t.k t.m t.r t.s t.of.length false := ⟨_, rfl⟩
   rw [← hR]
   rw [← hL] at HB HW hc4 hR hl1 ⊢
   clear hw h ih kb hb hW hl hL hLc
   generalize t.k = k at *
   generalize t.m = m at *
   generalize t.r = rg at *
   generalize t.s = st at *
   have HR := Lib.hid hR
   clear hR
   go_enter Tryz.func60, Tryz.ntmps60
   go_upto_region 1 with fail
   rw [← HW.out]
   go_wp2_with fail
   all_goals
    go_ret
    refine ⟨ret_eq (congrArg Value.bool ?_), HB.out.1⟩
    rw [HR.out]
    clear HR HB HW hc0 hc1 hc2 hc3 hc4 hw1 ht0 hl1
    unfold lookV
    simp_all
    try (first | omega | (intro h1 h2; omega) | (intro h1; omega) | (rw [Bool.eq_iff_iff]; simp; omega) | (rw [Bool.eq_iff_iff]; simp; done))
end Go.Proofs.YtaeppaaolkcbbaaGreatDoor

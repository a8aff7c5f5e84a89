/- layout's table of shapes: plain, and in memory. A drawn region within which one element of five cells is appended to a slice of the call's own (the element's block may be the old one). -/
import Derived.Test.YtaeppaaolkcbbaaGreatDoorMg29
import Derived.Test.YtaeppaaolkcbbaaGreatDoorMg08
import Derived.Test.YtaeppaaolkcbbaaGreatDoorMg02
namespace Go.Proofs.YtaeppaaolkcbbaaGreatDoor
open Go.RowKit

def keyB (t : Ty) : List UInt8 := (txB 48 t).data.toList
def idxF (L : List Ty) (s : List UInt8) : Option Int := (L.findIdx? fun u => keyB u == s).map fun (i : Nat) => (i : Int)
theorem idxF_nil (s : List UInt8) : idxF [] s = none := rfl
theorem idxF_snoc {L : List Ty} {t : Ty} (h : idxF L (keyB t) = none) : idxF (L ++ [t]) = fun l => if l = keyB t then some (L.length : Int) else idxF L l := by
 funext l
 have hn : L.findIdx? (fun u => keyB u == keyB t) = none := by
  unfold idxF at h
  cases hq : L.findIdx? (fun u => keyB u == keyB t) with
  | none => rfl
  | some i => rw [hq] at h; cases h
 unfold idxF
 rw [List.findIdx?_append]
 by_cases e : l = keyB t
 ·subst e
  rw [if_pos rfl, hn]
  simp
 ·rw [if_neg e]
  have : (keyB t == l) = false := by rw [beq_eq_false_iff_ne]; exact fun h => e h.symm
  simp [List.findIdx?_cons, this]
def meetL (f : Ty → List Ty → List Ty) (l : List (Nat × Ty)) (L : List Ty) : List Ty := l.foldl (fun L x => f x.2 L) L
theorem meetL_snoc (f : Ty → List Ty → List Ty) (l : List (Nat × Ty)) (x : Nat × Ty) (L : List Ty) : meetL f (l ++ [x]) L = f x.2 (meetL f l L) := by
 unfold meetL; rw [List.foldl_append]; rfl
def meetN (S : List (List Ty)) : Nat → Ty → List Ty → List Ty
 | 0, _, L => L
 | n + 1, t, L => if (bxF S 34 t 0).length = 0 ∨ (idxF L (keyB t)).isSome = true ∨ 4096 < L.length then L else meetL (meetN S n) (bxF S 34 t 0) (L ++ [t])
theorem meetL_le {f : Ty → List Ty → List Ty} (hf : ∀ t L, L.length ≤ (f t L).length) : ∀ (l : List (Nat × Ty)) (L : List Ty), L.length ≤ (meetL f l L).length := by
 intro l
 induction l with
 | nil => intro L; exact Nat.le_refl _
 | cons x l ih => intro L; exact Nat.le_trans (hf x.2 L) (ih _)
theorem meetN_le (S : List (List Ty)) : ∀ (n : Nat) (t : Ty) (L : List Ty), L.length ≤ (meetN S n t L).length := by
 intro n
 induction n with
 | zero => intro t L; exact Nat.le_refl _
 | succ n ih =>
  intro t L
  unfold meetN
  split
  ·exact Nat.le_refl _
  ·exact Nat.le_trans (by simp) (meetL_le ih _ _)
structure OwnTl (w00 w : World) (v : Value) (l : List Ty) (us : List Value) : Prop where
 row : w.ownsRow w00.heap.size 26 5 v l.length us
 tys : ∀ k (h : k < l.length), ∃ ta tc, (∀ j, j < 5 → us[k * 5 + j]? = (tyCs l[k] ta tc)[j]?) ∧ TyAt 49 w00 l[k] ta tc
theorem ownTl_nil (w00 w : World) : OwnTl w00 w (.slice none 0 0) [] [] := ⟨World.ownsRow_nil _ _ _ _, fun k hk => by simp at hk⟩
theorem OwnTl.kb {w00 w w' : World} {v : Value} {l : List Ty} {us : List Value} (h : OwnTl w00 w v l us) {S : Nat → Prop} (hk : KB S w w') (hS : ∀ g, v.ownBlock = some g → ¬ S g) : OwnTl w00 w' v l us := ⟨own_kb h.row hk hS, h.tys⟩
theorem OwnTl.push {w00 w' : World} {v v' : Value} {l : List Ty} {us : List Value} {t : Ty} {ta : Option Addr} {tc : Nat} {w : World} (h : OwnTl w00 w v l us) (ht : TyAt 49 w00 t ta tc) (h' : w'.ownsRow w00.heap.size 26 5 v' (l.length + 1) (us ++ tyCs t ta tc)) : OwnTl w00 w' v' (l ++ [t]) (us ++ tyCs t ta tc) := by
 have hul : us.length = l.length * 5 := h.row.1
 refine ⟨by rw [List.length_append]; exact h', fun k hk => ?_⟩
 rw [List.length_append, List.length_singleton] at hk
 by_cases hlt : k < l.length
 ·rw [List.getElem_append_left hlt]
  obtain ⟨a, c, h1, h2⟩ := h.tys k hlt
  refine ⟨a, c, fun j hj => ?_, h2⟩
  rw [List.getElem?_append_left (by rw [hul]; omega)]
  exact h1 j hj
 ·obtain rfl : k = l.length := by omega
  rw [List.getElem_append_right (by omega)]
  simp only [Nat.sub_self, List.getElem_singleton]
  refine ⟨ta, tc, fun j hj => ?_, ht⟩
  rw [List.getElem?_append_right (by rw [hul]; omega), hul, Nat.add_sub_cancel_left]
structure TabAt (w00 : World) (N : Nat) (sa : Option Addr) (sc X mb : Nat) (v : Value) (us : List Value) (L : List Ty) (w : World) : Prop where
 kb : KB F0 w00 w
 lo : w00.heap.size ≤ X
 lom : w00.heap.size ≤ mb
 cell : w.heap[X]? = some (.cells #[.slice sa N sc, .map (some mb), v] 109 (0, 0))
 map : MapIs w mb L.length (idxF L)
 list : OwnTl w00 w v L us
theorem TabAt.kbF {w00 : World} {N : Nat} {sa : Option Addr} {sc X mb : Nat} {v : Value} {us : List Value} {L : List Ty} {w w' : World} (h : TabAt w00 N sa sc X mb v us L w) (hk : KB F0 w w') : TabAt w00 N sa sc X mb v us L w' :=
 ⟨h.kb.trans hk, h.lo, h.lom, hk.heap (fun x => x) h.cell, h.map.kb hk (fun x => x), h.list.kb hk (fun _ _ x => x)⟩
theorem keyB_size {t : Ty} (h : lookB 32 48 t = true) : (txB 48 t).size ≤ 1000 := by have := txB_size 48 t h; omega
def TabInv (w00 : World) (N : Nat) (sa : Option Addr) (sc X mb : Nat) (L : List Ty) (w : World) : Prop := ∃ v us, TabAt w00 N sa sc X mb v us L w
def TabP (X mb : Nat) (W : World) (k : Nat) : Prop := k = X ∨ k = mb ∨ ∃ c0 c1 v, W.heap[X]? = some (.cells #[c0, c1, v] 109 (0, 0)) ∧ v.ownBlock = some k
theorem tab_met (w00 : World) (N : Nat) (sa : Option Addr) (sc X mb : Nat) (F : List (Nat × Ty) → List Ty) : MetOk w00 (TabP X mb) (fun l w => TabInv w00 N sa sc X mb (F l) w) where
 kb := fun L W ⟨v, us, h⟩ => h.kb
 mono := fun L W W' ⟨v, us, h⟩ hk => ⟨⟨v, us, h.kbF hk⟩, fun k hp => by
  rcases hp with rfl | rfl | ⟨c0, c1, u, h1, h2⟩
  ·exact Or.inl (Or.inl rfl)
  ·exact Or.inl (Or.inr (Or.inl rfl))
  ·rw [hk.heap (fun x => x) h.cell] at h1
   simp only [Option.some.injEq, Obj.cells.injEq, Array.mk.injEq, List.cons.injEq, and_true] at h1
   obtain ⟨rfl, rfl, rfl⟩ := h1
   exact Or.inl (Or.inr (Or.inr ⟨_, _, _, h.cell, h2⟩))⟩
 fld := fun L W k cs ⟨v, us, h⟩ hc hp => by
  rcases hp with rfl | rfl | ⟨c0, c1, u, h1, h2⟩
  ·rw [h.cell] at hc
   simp only [Option.some.injEq, Obj.cells.injEq] at hc
   exact absurd hc.2.1 (by decide)
  ·obtain ⟨D, ⟨es, clock, h1, -⟩, -⟩ := h.map
   rw [h1] at hc
   cases hc
  ·rw [h.cell] at h1
   simp only [Option.some.injEq, Obj.cells.injEq, Array.mk.injEq, List.cons.injEq, and_true] at h1
   obtain ⟨rfl, rfl, rfl⟩ := h1
   obtain ⟨c, h3, -⟩ := own_block h.list.row h2
   rw [h3] at hc
   simp only [Option.some.injEq, Obj.cells.injEq] at hc
   exact absurd hc.2.1 (by decide)
set_option maxRecDepth 100000 in
set_option maxHeartbeats 16000000 in
/-- table.shape. -/
theorem lyshape_any (w00 : World) (N : Nat) (sa : Option Addr) (sc X mb : Nat) (v : Value) (us : List Value) (L : List Ty) (w : World) (hT : TabAt w00 N sa sc X mb v us L w) (t : Ty) (ta : Option Addr) (tc : Nat) (hlk : lookB 32 48 t = true) (ht : TyAt 49 w t ta tc) :
  Calls Tryz.prog 48 #[.pointer (some ⟨X, 0, none⟩), tyV t ta tc] w fun e w' => e = .returned (.int .i64 ((idxF L (keyB t)).getD (-1))) ∧ KB F0 w w' := by
 obtain ⟨w0, rfl⟩ : ∃ w0, w0 = w := ⟨_, rfl⟩
 obtain ⟨W, hW⟩ : ∃ W, W = w0.alloc (.cells #[.int .u8 t.k, .bool t.m, .int .i64 t.r, .int .i64 t.s, .slice ta t.of.length tc] 26) := ⟨_, rfl⟩
 obtain ⟨kb, hb⟩ := boxTy w0 t ta tc
 rw [← hW] at kb hb
 obtain ⟨c0, c1, c2, c3, c4⟩ := TyCells.of_block hb
 simp only [Nat.zero_add] at c0 c1 c2 c3 c4
 have x1 : W.cell? ⟨X, 1, none⟩ = some (.map (some mb)) := blk_cell (kb.heap (fun x => x) hT.cell) 1
 have TX := Lib.hid (fun (V : World) (hV : KB F0 W V) => lytext_any t ta tc V hlk (ht.kbF (kb.trans hV)))
 have HM := Lib.hid (fun (V : World) (hV : KB F0 W V) => mapIs_look (hT.map.kb (kb.trans hV) (fun x => x)) (txB 48 t) (by have := keyB_size hlk; unfold maxLen; omega))
 rw [show (txB 48 t).data.toList = keyB t from rfl] at HM
 obtain ⟨R, hR⟩ : ∃ R, R = txB 48 t := ⟨_, rfl⟩
 rw [← hR] at TX HM
 obtain ⟨O, hO⟩ : ∃ O, O = idxF L (keyB t) := ⟨_, rfl⟩
 rw [← hO] at HM ⊢
 obtain ⟨gi, hgi⟩ : ∃ g, g = O.getD 0 := ⟨_, rfl⟩
 obtain ⟨gb, hgb⟩ : ∃ g, g = O.isSome := ⟨_, rfl⟩
 rw [← hgi, ← hgb] at HM
 have HO := Lib.hid (And.intro hgi hgb)
 unfold tyV at TX ⊢
 have HW := Lib.hid hW
 have HK := Lib.hid kb
 clear hW kb hb hlk ht hT hR hO hgi hgb
 go_enter Tryz.func48, Tryz.ntmps48
 go_upto_region 1 with fail
 rw [← HW.out]
 refine wp_region_rv 12 GK (kindW [(5, (fun v => v = .string R), (fun _ _ => True))]) (by kernel_rfl) (by kernel_rfl) (kb_trans _) (kb_refl _) (kb_start _ _) (kindW_mono _ (by intro p hp; simp only [List.mem_cons, List.not_mem_nil, or_false] at hp; rcases hp with rfl <;> exact lasts_true)) ?_
 simp only [pT, pU, pV, pW]
 iterate 3 (refine rv_det (by kernel_rfl) rfl (by intro w hG hH; go_simp; first | done | with_reducible rfl) ?_; simp only [Act.put, pA, pZ, pS])
 refine rv_det (by kernel_rfl) rfl (by intro w hG hH; have hc0 := kc hG (x1); go_simp; first | done | with_reducible rfl) ?_
 simp only [Act.put, pA, pZ, pS]
 refine rv_det (by kernel_rfl) rfl (by intro w hG hH; have hc0 := kc hG (c0); have hc1 := kc hG (c1); have hc2 := kc hG (c2); have hc3 := kc hG (c3); have hc4 := kc hG (c4); go_simp; first | done | with_reducible rfl) ?_
 simp only [Act.put, pA, pZ, pS]
 refine rv_rel (by kernel_rfl) rfl ⟨_, rfl⟩ (by
  intro w hG hH
  refine opVal_call (by go_simp; first | done | exact ⟨⟨rfl, rfl⟩, rfl⟩) ?_
  refine (TX.out _ hG).mono ?_
  rintro e w' ⟨rfl, hq⟩
  exact ⟨_, rfl, rfl, by first | (obtain ⟨nq, rfl⟩ := hq; exact (KB.refl _ _).drewN _) | (subst hq; exact KB.refl _ _) | exact hq, trivial⟩) ?_
 rintro v rfl
 simp only [Act.put, pA, pZ, pS]
 refine rv_det (by kernel_rfl) rfl (by intro w hG hH; have e := HM.out w hG; go_simp; first | done | with_reducible rfl) ?_
 simp only [Act.put, pA, pZ, pS]
 iterate 5 (refine rv_det (by kernel_rfl) rfl (by intro w hG hH; go_simp; first | done | with_reducible rfl) ?_; simp only [Act.put, pA, pZ, pS])
 refine rv_nil (fun w hG hH => ?_)
 have H1 := Lib.hid (HK.out.trans hG)
 clear hG hH c0 c1 c2 c3 c4 x1
 cases gb with
 | true =>
  have HR : Hid (O.getD (-1) = gi) := Lib.hid (by
   have h1 := HO.out.1
   have h2 := HO.out.2
   cases O with
   | none => cases h2
   | some i => rw [h1]; rfl)
  go_wp2_with fail
  go_ret
  exact ⟨ret_eq (by rw [HR.out]; rfl), H1.out⟩
 | false =>
  have HR : Hid (O.getD (-1) = -1) := Lib.hid (by
   have h2 := HO.out.2
   cases O with
   | none => rfl
   | some i => cases h2)
  go_wp2_with fail
  go_ret
  exact ⟨ret_eq (by rw [HR.out]; rfl), H1.out⟩
end Go.Proofs.YtaeppaaolkcbbaaGreatDoor

namespace Go.Proofs.YtaeppaaolkcbbaaGreatDoor.A5
open Go.RowKit

def inPlace (v : Value) (n : Nat) : Value := match v with
 | .slice a _ c => .slice a n c
 | v => v
theorem inPlace_block (v : Value) (n : Nat) : (inPlace v n).ownBlock = v.ownBlock := by
 cases v with
 | slice a l c => cases a <;> rfl
 | _ => rfl
theorem own_at5 {w w' : World} {B : Nat} {e : TypeId} {size n : Nat} {v : Value} {xs : List Value} (h : w.ownsRow B e size v n xs) (hs : ∀ g, v.ownBlock = some g → w'.heap[g]? = w.heap[g]?) : w'.ownsRow B e size v n xs := by
 obtain ⟨h1, h2⟩ := h
 refine ⟨h1, ?_⟩
 rcases h2 with h2 | ⟨g, cap, cur, hv, hg, hh, r⟩
 ·exact Or.inl h2
 ·exact Or.inr ⟨g, cap, cur, hv, hg, by rw [hs g (by rw [hv]; rfl)]; exact hh, r⟩
theorem own_prefix {w : World} {B : Nat} {e : TypeId} {v : Value} {n m : Nat} {ys : List Value} (h : w.ownsRow B e 5 (inPlace v n) n ys) (hm : m ≤ n) (hv : ∃ g c, v = .slice (some ⟨g, 0, none⟩) m c) : w.ownsRow B e 5 v m (ys.take (m * 5)) := by
 obtain ⟨g, c, rfl⟩ := hv
 obtain ⟨h1, h2⟩ := h
 rcases h2 with ⟨h2, -⟩ | ⟨g', cap, cur, hv, hg, hh, hcap, hmx, hsz, hx⟩
 ·simp [inPlace] at h2
 ·simp only [inPlace, Value.slice.injEq, Option.some.injEq, Addr.mk.injEq, and_true, true_and] at hv
  obtain ⟨rfl, rfl⟩ := hv
  refine ⟨by rw [List.length_take, h1]; omega, Or.inr ⟨g, c, cur, rfl, hg, hh, by omega, hmx, hsz, ?_⟩⟩
  rw [← hx, List.take_take]
  congr 1; omega
def GA (B : Nat) (e : TypeId) (v : Value) (n : Nat) (ys : List Value) (a b : World) : Prop :=
 KB (fun k => v.ownBlock = some k) a b ∧ ∀ g, v.ownBlock = some g → b.heap[g]? = a.heap[g]? ∨ b.ownsRow B e 5 (inPlace v n) n ys
section
variable {B : Nat} {e : TypeId} {v : Value} {n : Nat} {ys : List Value}
theorem GA.refl (a : World) : GA B e v n ys a a := ⟨KB.refl _ _, fun _ _ => .inl rfl⟩
theorem GA.trans (a b c : World) (h : GA B e v n ys a b) (k : GA B e v n ys b c) : GA B e v n ys a c := by
 refine ⟨h.1.trans k.1, fun g hg => ?_⟩
 rcases k.2 g hg with h2 | h2
 ·rcases h.2 g hg with h1 | h1
  ·exact .inl (h2.trans h1)
  ·refine .inr (own_at5 h1 fun g' hg' => ?_)
   rw [inPlace_block, hg] at hg'
   obtain rfl := Option.some.inj hg'
   exact h2
 ·exact .inr h2
theorem GA.start (a : World) : GA B e v n ys a a.drew := ⟨(KB.refl _ _).drew, fun _ _ => .inl rfl⟩
theorem GA.kb {F0' : Nat → Prop} {a b : World} (hk : KB F0' a b) (hF : ∀ k, ¬ F0' k) (hlt : ∀ g, v.ownBlock = some g → g < a.heap.size) : GA B e v n ys a b :=
 ⟨hk.mono (fun k _ h => (hF k h).elim), fun g hg => .inl (hk.block g (hlt g hg) (hF g))⟩
theorem GA.old {a b : World} {m : Nat} (h : GA B e v n ys a b) (ho : a.ownsRow B e 5 v m (ys.take (m * 5))) (hm : m ≤ n) : b.ownsRow B e 5 v m (ys.take (m * 5)) := by
 obtain ⟨h1, h2⟩ := ho
 rcases h2 with ⟨rfl, h2⟩ | ⟨g, cap, cur, rfl, hb, hh, r⟩
 ·exact ⟨h1, Or.inl ⟨rfl, h2⟩⟩
 ·rcases h.2 g rfl with h3 | h3
  ·exact ⟨h1, Or.inr ⟨g, cap, cur, rfl, hb, by rw [h3]; exact hh, r⟩⟩
  ·exact own_prefix h3 hm ⟨g, cap, rfl⟩
def FA (B N0 : Nat) (e : TypeId) (v : Value) (n : Nat) (ys : List Value) (v' : Value) (w : World) : Prop :=
 w.ownsRow B e 5 v' n ys ∧ (v' = inPlace v n ∨ ∀ g, v'.ownBlock = some g → v.ownBlock ≠ some g ∧ N0 ≤ g)
theorem FA.lasts {N0 : Nat} {v' : Value} {a b : World} (h : GA B e v n ys a b) (f : FA B N0 e v n ys v' a) : FA B N0 e v n ys v' b := by
 obtain ⟨f1, f2⟩ := f
 refine ⟨?_, f2⟩
 rcases f2 with rfl | f2
 ·cases hv : v.ownBlock with
  | none => exact own_at5 f1 (fun g hg => by rw [inPlace_block, hv] at hg; cases hg)
  | some g =>
   rcases h.2 g hv with h1 | h1
   ·refine own_at5 f1 (fun g' hg' => ?_)
    rw [inPlace_block, hv] at hg'
    obtain rfl := Option.some.inj hg'
    exact h1
   ·exact h1
 ·exact own_kb f1 h.1 (fun g hg hS => (f2 g hg).1 hS)
end
theorem kindW_monoG {G : World → World → Prop} (l : List (Nat × (Value → Prop) × (Value → World → Prop))) (hl : ∀ p ∈ l, ∀ v a b, G a b → p.2.2 v a → p.2.2 v b) : ∀ i Fp Fw, kindW l i = .rel Fp Fw → ∀ xs v a b, G a b → Fw xs v a → Fw xs v b := by
 intro i Fp Fw h xs v a b hG hf
 unfold kindW at h
 split at h
 ·rename_i p hp
  cases h
  exact hl p (List.mem_of_find?_eq_some hp) v a b hG hf
 ·cases h
theorem run_append_two {P : Program} (w : World) (base N0 : Nat) (hN0 : N0 ≤ w.heap.size) (t ty e : TypeId) {z : Value} {bytes : Nat} (hinfo : (P.info? e).map (fun i => (i.zero, i.size, i.bytes)) = some (some z, 5, bytes)) (ht : P.underlying t = some (.slice e)) (hzs : z.cells.size = 5)
  (v : Value) (n : Nat) (xs : List Value) (hown : w.ownsRow base e 5 v n xs) (a : Addr) (c : Nat) (cs : List Value) (hcl : cs.length = 5) (hu : ∀ j x, cs[j]? = some x → w.cell? (a.add j) = some x) (h1 : ∀ x ∈ cs, x.oneCell' = true)
  (h63 : n + 1 ≤ maxLen) (hbytes : (n + 1) * bytes ≤ 140737488355328) (hbase : base ≤ w.heap.size) :
  ∃ v' w', (Builtin.append_ #[t, t] ty #[v, .slice (some a) 1 c]).run P w = .ok v' w' ∧ FA base N0 e v (n + 1) (xs ++ cs) v' w' ∧ GA base e v (n + 1) (xs ++ cs) w w' := by
 obtain ⟨i, hi, hz, hsize, hby⟩ := info_parts hinfo
 by_cases hroom : ∃ g cap, v = .slice (some ⟨g, 0, none⟩) n cap ∧ n + 1 ≤ cap
 ·obtain ⟨g, cap, rfl, hcap⟩ := hroom
  obtain ⟨w', hr, h2, h3⟩ := run_append_fits (P := P) w base t ty e i 5 ht hi hsize g n cap xs hown a 1 c cs (by rw [hcl]) hu h1 hcap
  refine ⟨_, w', hr, ⟨h2, .inl rfl⟩, ⟨⟨h3.os, h3.tape, h3.output, h3.size, fun k hk hn => h3.block k hk (fun e => hn (by rw [e]; rfl))⟩, fun g' hg' => .inr h2⟩⟩
 ·-- a new block
  have hlen := hown.1
  have mk : ∀ (old : Nat), old < n + 1 →
    (w.drew.alloc (.cells (xs.toArray ++ cs.toArray ++ Builtin.zeroCells z.cells (grownCap w (n + 1) old e - (n + 1))) e)).ownsRow base e 5
     (.slice (some ⟨w.heap.size, 0, none⟩) (n + 1) (grownCap w (n + 1) old e)) (n + 1) (xs ++ cs) ∧
    KB (fun _ => False) w (w.drew.alloc (.cells (xs.toArray ++ cs.toArray ++ Builtin.zeroCells z.cells (grownCap w (n + 1) old e - (n + 1))) e)) := by
   intro old ho
   have hge := grownCap_ge w (n + 1) old e
   have hcm : grownCap w (n + 1) old e ≤ maxLen := grownCap_le_maxLen w (n + 1) old e h63
   refine ⟨⟨by rw [List.length_append, hlen, hcl]; omega, .inr ⟨w.heap.size, _, _, rfl, hbase, heap_alloc_new w.drew _, hge, hcm, ?_, ?_⟩⟩, (KB.refl _ _).drew.alloc _⟩
   ·simp only [Array.size_append, List.size_toArray, size_zeroCells, hzs, hlen, hcl]
    omega
   ·simp only [Array.toList_append, List.append_assoc]
    rw [← List.append_assoc, show (n + 1) * 5 = (xs ++ cs).length by rw [List.length_append, hlen, hcl]; omega]
    exact List.take_left
  have hlt : ∀ g, v.ownBlock = some g → g < w.heap.size := fun g hg => by
   rcases hown.2 with ⟨rfl, -⟩ | ⟨g', cap, cur, rfl, -, hh, -⟩
   ·cases hg
   ·simp [Value.ownBlock] at hg; subst hg; exact heap_lt hh
  have fin : ∀ {w' : World} {cap' : Nat}, w'.ownsRow base e 5 (.slice (some ⟨w.heap.size, 0, none⟩) (n + 1) cap') (n + 1) (xs ++ cs) → KB (fun _ => False) w w' →
    FA base N0 e v (n + 1) (xs ++ cs) (.slice (some ⟨w.heap.size, 0, none⟩) (n + 1) cap') w' ∧ GA base e v (n + 1) (xs ++ cs) w w' := fun h2 hk =>
   ⟨⟨h2, .inr (fun g hg => by
    simp [Value.ownBlock] at hg
    exact ⟨fun hv => by have := hlt g hv; omega, by omega⟩)⟩, hk.mono (fun _ _ h => h.elim), fun g hg => .inl (hk.block g (hlt g hg) (fun x => x))⟩
  rcases hown.2 with ⟨rfl, rfl⟩ | ⟨g, cap, cur, rfl, hbg, hg, hnc, hcm, hcs, htake⟩
  ·have hx : xs = [] := List.eq_nil_of_length_eq_zero (by simpa using hlen)
   subst hx
   have hr := run_append_nil (P := P) w t ty e i z ht hi hz a 1 c cs (by rw [hsize, hcl]) hu (by omega) (by omega) (by rw [hby]; simp only [Nat.zero_add, Nat.one_mul] at hbytes; omega)
   obtain ⟨m1, m2⟩ := mk 0 (by omega)
   simp only [Nat.zero_add, List.nil_append, Array.empty_append] at m1 m2 fin ⊢
   exact ⟨_, _, hr, fin m1 m2⟩
  ·have hcap : cap < n + 1 := by
    apply Classical.byContradiction
    intro h
    exact hroom ⟨g, cap, rfl, by omega⟩
   have hr := run_append_grow (P := P) w t ty e i z ht hi hz ⟨g, 0, none⟩ n cap xs (by rw [hsize]; exact hlen) (hown.cells (g := g) rfl) a 1 c cs (by rw [hsize, hcl]) hu (by omega) (by unfold maxLen at h63; omega)
    (growslice_fits (by omega) (by rw [hby]; exact hbytes))
   obtain ⟨m1, m2⟩ := mk cap hcap
   exact ⟨_, _, hr, fin m1 m2⟩
theorem opVal_append {P : Program} {o : Oper} {act : Act} {w : World} (base N0 : Nat) (hN0 : N0 ≤ w.heap.size) (s x : Operand) (t e : TypeId) {z : Value} {bytes : Nat} (ho : o.op = .call { callee := .builtin .append, args := #[s, x], argTypes := #[t, t] })
  (hinfo : (P.info? e).map (fun i => (i.zero, i.size, i.bytes)) = some (some z, 5, bytes)) (ht : P.underlying t = some (.slice e)) (hzs : z.cells.size = 5)
  (v : Value) (n : Nat) (xs : List Value) (hs : act.eval s = v) (hown : w.ownsRow base e 5 v n xs) (nb c : Nat) (cs : List Value) (hcl : cs.length = 5) (te : TypeId) (hx : act.eval x = .slice (some ⟨nb, 0, none⟩) 1 c) (hu : w.heap[nb]? = some (.cells cs.toArray te (0, 0))) (h1 : ∀ x ∈ cs, x.oneCell' = true)
  (h63 : n + 1 ≤ maxLen) (hbytes : (n + 1) * bytes ≤ 140737488355328) (hbase : base ≤ w.heap.size) :
  OpVal P o act w (fun v' w' => FA base N0 e v (n + 1) (xs ++ cs) v' w' ∧ GA base e v (n + 1) (xs ++ cs) w w') := by
 obtain ⟨v', w', hr, h2, h3⟩ := run_append_two (P := P) w base N0 hN0 t o.type e hinfo ht hzs v n xs hown ⟨nb, 0, none⟩ c cs hcl (cells_of_block hu) h1 h63 hbytes hbase
 refine opVal_value (v := v') (w' := w') ?_ ⟨h2, h3⟩
 unfold execOp
 simp only [ho, resolve, invoke, builtin, Sem.run_bind, Sem.run_pure, Result.andThen_ok, List.map_toArray, List.map_cons, List.map_nil, hs, hx, hr]
theorem opVal_imp {P : Program} {o : Oper} {a : Act} {w : World} {ψ φ : Value → World → Prop} (h : OpVal P o a w ψ) (hi : ∀ v w', ψ v w' → φ v w') : OpVal P o a w φ := by
 unfold OpVal at h ⊢
 split at h
 ·exact hi _ _ h
 ·exact h.mono fun e w' ⟨v, h1, h2⟩ => ⟨v, h1, hi _ _ h2⟩
 ·exact h
end Go.Proofs.YtaeppaaolkcbbaaGreatDoor.A5

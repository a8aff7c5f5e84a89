/- layout.Boxes, Field; types.Words. slices.ContainsFunc over fields, whatever is asked; types.drops. types.Words, Drops; layout.Field. layout.Class, Size. typeFits of a law: any type. loanwordlaw23.structsFit. -/
import Derived.Test.YtaeppaaolkcbbaaGreatDoorMg08
import Derived.Test.YtaeppaaolkcbbaaGreatDoorMg07
import Derived.Test.YtaeppaaolkcbbaaGreatDoorMg03
import Derived.Deep.DeepCutAuto
import Derived.Deep.LoopGhost
namespace Go.Proofs.YtaeppaaolkcbbaaGreatDoor
open Go.RowKit

def bxN (S : List (List Ty)) (t : Ty) : List Int := atsI (bxF S 34 t 0)
theorem bxN_len (S : List (List Ty)) (hg : GoodS S) (t : Ty) (h : lookB S.length 48 t = true) : (bxN S t).length ≤ 16 := by
 unfold bxN atsI
 rw [List.length_map]
 exact Nat.le_trans (bxF_len S 34 t 0) (hg.w16 34 t (hg.fin t) (look_inT h))
def BoxesEnd (S : List (List Ty)) (t : Ty) (w : World) (e : Ending) (w' : World) : Prop :=
 (MayT S t ∧ ∃ v, e = .returned (.tuple #[v, .int .i64 0]) ∧ w'.ownsRow w.heap.size 3 1 v (bxN S t).length (intsV (bxN S t)) ∧ KB F0 w w') ∨
 (¬ MayT S t ∧ e = .returned (.tuple #[.slice none 0 0, .int .i64 2]) ∧ KB F0 w w')
set_option maxRecDepth 100000 in
set_option maxHeartbeats 16000000 in
theorem lyBoxes_any (S : List (List Ty)) (hn : S.length ≤ 1000000) (hl : ∀ i, (fds S i).length ≤ 1000000) (a : Option Addr) (c : Nat) (hc : S.length ≤ c) (t : Ty) (ta : Option Addr) (tc : Nat) (w : World) (h : StsAt 49 w a S) (ht : TyAt 49 w t ta tc) :
  Calls Tryz.prog 15 #[.slice a S.length c, tyV t ta tc] w (BoxesEnd S t w) := by
 obtain ⟨w0, rfl⟩ : ∃ w0, w0 = w := ⟨_, rfl⟩
 obtain ⟨W, hW⟩ : ∃ W, W = w0.alloc (.cells #[.int .u8 t.k, .bool t.m, .int .i64 t.r, .int .i64 t.s, .slice ta t.of.length tc] 26) := ⟨_, rfl⟩
 obtain ⟨kb, hb⟩ := boxTy w0 t ta tc
 rw [← hW] at kb hb
 have MY := Lib.hid (tyMay_any S hn hl a c hc t ta tc W (h.kbF kb) (ht.kbF kb))
 have HW := Lib.hid hW
 have HB := Lib.hid (And.intro kb (And.intro hb (And.intro h ht)))
 obtain ⟨c0, c1, c2, c3, c4⟩ := TyCells.of_block hb
 clear kb hb hW h ht hn hl hc
 unfold tyV at MY ⊢
 go_enter Tryz.func15, Tryz.ntmps15
 go_upto_region 1 with fail
 rw [← HW.out]
 go_wp2_with fail
 refine MY.out.mono ?_
 rintro e w2 ⟨ok, rfl, hok, k2⟩
 have hb2 := k2.heap (fun x => x) HB.out.2.1
 have HK := Lib.hid (And.intro (HB.out.1.trans k2) hok)
 clear k2 hok c0 c1 c2 c3 c4
 have d0 := blk_cell hb2 0
 have d1 := blk_cell hb2 1
 have d2 := blk_cell hb2 2
 have d3 := blk_cell hb2 3
 have d4 := blk_cell hb2 4
 simp at d0 d1 d2 d3 d4
 clear hb2
 cases ok
 case false =>
  have hno : ¬ MayT S t := fun hm => by have := HK.out.2.2 hm; cases this
  go_wp2_with fail
  go_ret2
  exact Or.inr ⟨hno, rfl, HK.out.1⟩
 case true =>
  have hm : MayT S t := HK.out.2.1 rfl
  obtain ⟨W3, hW3⟩ : ∃ W3, W3 = w2.alloc (.cells #[.slice none 0 0] 40) := ⟨_, rfl⟩
  have k3 : KB F0 w2 W3 := by rw [hW3]; exact (KB.refl _ _).alloc _
  have hX : W3.heap[w2.heap.size]? = some (.cells #[.slice none 0 0] 40 (0, 0)) := by rw [hW3]; exact alloc_new _ _
  have k03 := HK.out.1.trans k3
  have hI0 : BxInv w0 w2.heap.size [] W3 := ⟨_, k03, HK.out.1.size, hX, World.ownsRow_nil _ _ _ _⟩
  have hen : ∀ args W, (callFunc 40 args).run Tryz.prog W = .ok (.enter 40 args) W := fun args W => by
   have h1 : Tryz.prog.funcs[40]? = some Tryz.f40 := Tryz.func40
   simp [callFunc, h1, show Tryz.f40.name ≠ "runtime.NumGoroutine" by decide, show Tryz.f40.body ≠ none from fun e => by cases e]
  have BX := Lib.hid (lyboxes_any hm.1 a c w0 HB.out.2.2.1 40 #[.pointer (some ⟨w2.heap.size, 0, none⟩)] (BxP w2.heap.size) (BxInv w0 w2.heap.size) hen (bx_met w0 w2.heap.size) (bx_step S w0 w2.heap.size) 34 t ta tc 0 [] W3
   (hm.1.fin t) hm.2 (by have := hm.1.w16 34 t (hm.1.fin t) (look_inT hm.2); omega) (by have := hm.1.w16 34 t (hm.1.fin t) (look_inT hm.2); simp; omega) HB.out.2.2.2 hI0)
  have HM := Lib.hid hm
  have HW3 := Lib.hid hW3
  have f0 := k3.cell (p := ⟨w0.heap.size, 0, none⟩) (fun x => x) d0
  have f1 := k3.cell (p := ⟨w0.heap.size, 1, none⟩) (fun x => x) d1
  have f2 := k3.cell (p := ⟨w0.heap.size, 2, none⟩) (fun x => x) d2
  have f3 := k3.cell (p := ⟨w0.heap.size, 3, none⟩) (fun x => x) d3
  have f4 := k3.cell (p := ⟨w0.heap.size, 4, none⟩) (fun x => x) d4
  clear k3 hX k03 hI0 hen hW3 hm
  unfold tyV at BX
  go_upto_region 4 with fail
  rw [← HW3.out]
  clear d0 d1 d2 d3 d4
  go_wp2_with fail
  refine BX.out.mono ?_
  rintro e w4 ⟨rfl, ⟨v, hR⟩, -⟩
  have hX4 := blk_cell hR.cell 0
  have HR := Lib.hid hR
  clear hR f0 f1 f2 f3 f4
  simp at hX4
  go_wp2_with fail
  go_ret2
  refine Or.inl ⟨HM.out, v, rfl, ?_, HR.out.kb⟩
  have := HR.out.own
  have e1 : atsI ([] ++ bxF S 34 t 0) = bxN S t := rfl
  rw [e1] at this
  exact this

def drF (S : List (List Ty)) : Nat → Ty → Bool
 | 0, _ => false
 | n + 1, t => if t.k = 3 then true else if t.k = 5 then (fds S t.s.toNat).any (drF S n) else false
theorem lyEn {g : FuncId} {fn : Func} (hf : Tryz.prog.funcs[g]? = some fn) (hn : fn.name ≠ "runtime.NumGoroutine") (hb : fn.body ≠ none) (args : Array Value) (W : World) : (callFunc g args).run Tryz.prog W = .ok (.enter g args) W := by
 simp [callFunc, hf, hn, hb]

def tyWEnd (S : List (List Ty)) (t : Ty) (w : World) (e : Ending) (w' : World) : Prop :=
 (MayT S t ∧ e = .returned (.tuple #[.int .i64 (wF S 34 t : Nat), .int .i64 0]) ∧ KB F0 w w') ∨ (¬ MayT S t ∧ e = .returned (.tuple #[.int .i64 0, .int .i64 2]) ∧ KB F0 w w')
def FieldOk (S : List (List Ty)) (n k : Int) : Prop := GoodS S ∧ 0 ≤ n ∧ n < (S.length : Int) ∧ 0 ≤ k ∧ k < ((fds S n.toNat).length : Int)
def lyFEnd (S : List (List Ty)) (n k : Int) (w : World) (e : Ending) (w' : World) : Prop :=
 (FieldOk S n k ∧ e = .returned (.tuple #[.int .i64 (wsum S 34 n.toNat k.toNat : Nat), .int .i64 0]) ∧ KB F0 w w') ∨ (¬ FieldOk S n k ∧ e = .returned (.tuple #[.int .i64 0, .int .i64 2]) ∧ KB F0 w w')
set_option maxRecDepth 100000 in
set_option maxHeartbeats 16000000 in
theorem lyField_any (S : List (List Ty)) (hn : S.length ≤ 1000000) (hl : ∀ i, (fds S i).length ≤ 1000000) (a : Option Addr) (c : Nat) (hc : S.length ≤ c) (n k : Int) (w : World) (h : StsAt 49 w a S) :
  Calls Tryz.prog 13 #[.slice a S.length c, .int .i64 n, .int .i64 k] w (lyFEnd S n k w) := by
 obtain ⟨w0, rfl⟩ : ∃ w0, w0 = w := ⟨_, rfl⟩
 have ST := Lib.hid (tyStructs_any S hn hl a c hc w0 h)
 obtain ⟨LS, hLS⟩ : ∃ L, L = S.length := ⟨_, rfl⟩
 have HLS := Lib.hid (And.intro hLS h)
 rw [← hLS] at ST ⊢
 clear hn hl hc hLS
 by_cases hn0 : n < 0
 ·have hno : Hid (¬ FieldOk S n k) := Lib.hid (fun hf => by have := hf.2.1; omega)
  have t1 : decide (n < 0) = true := decide_eq_true hn0
  go_enter Tryz.func13, Tryz.ntmps13
  go_wp2_with fail
  refine ST.out.mono ?_
  rintro e w1 ⟨at_, ok, rfl, -, k1⟩
  have K1 := Lib.hid k1
  clear k1
  cases ok
  all_goals
   simp only [stErr]
   go_wp2_with fail
   go_ret2
   exact Or.inr ⟨hno.out, rfl, K1.out⟩
 have t1 : decide (n < 0) = false := decide_eq_false hn0
 obtain ⟨u, rfl⟩ := Int.eq_ofNat_of_zero_le (show 0 ≤ n by omega)
 have t1 : decide ((u : Int) < 0) = false := t1
 by_cases hnL : LS ≤ u
 ·have hno : Hid (¬ FieldOk S (u : Nat) k) := Lib.hid (fun hf => by have := hf.2.2.1; have := HLS.out.1; omega)
  have t2 : decide (LS ≤ u) = true := decide_eq_true hnL
  go_enter Tryz.func13, Tryz.ntmps13
  go_wp2_with fail
  refine ST.out.mono ?_
  rintro e w1 ⟨at_, ok, rfl, -, k1⟩
  have K1 := Lib.hid k1
  clear k1
  cases ok
  all_goals
   simp only [stErr]
   go_wp2_with fail
   go_ret2
   exact Or.inr ⟨hno.out, rfl, K1.out⟩
 have t2 : decide (LS ≤ u) = false := decide_eq_false hnL
 have huL : u < S.length := by have := HLS.out.1; omega
 have huI : (u : Int) < (LS : Int) := by omega
 by_cases hk0 : k < 0
 ·have hno : Hid (¬ FieldOk S (u : Nat) k) := Lib.hid (fun hf => by have := hf.2.2.2.1; omega)
  have t3 : decide (k < 0) = true := decide_eq_true hk0
  go_enter Tryz.func13, Tryz.ntmps13
  go_wp2_with fail
  refine ST.out.mono ?_
  rintro e w1 ⟨at_, ok, rfl, -, k1⟩
  have K1 := Lib.hid k1
  clear k1
  cases ok
  all_goals
   simp only [stErr]
   go_wp2_with fail
   go_ret2
   exact Or.inr ⟨hno.out, rfl, K1.out⟩
 have t3 : decide (k < 0) = false := decide_eq_false hk0
 obtain ⟨q, rfl⟩ := Int.eq_ofNat_of_zero_le (show 0 ≤ k by omega)
 have t3 : decide ((q : Int) < 0) = false := t3
 obtain ⟨sb, so, snm, sfa, sfc, rfl, -, hsl, hsc, hfd⟩ := h u huL
 obtain ⟨Lf, hLf⟩ : ∃ L, L = (S.getD u []).length := ⟨_, rfl⟩
 rw [← hLf] at hsl hsc
 by_cases hqL : Lf ≤ q
 ·have hno : Hid (¬ FieldOk S (u : Nat) (q : Nat)) := Lib.hid (fun hf => by have := hf.2.2.2.2; rw [Int.toNat_natCast] at this; have e : (fds S u).length = Lf := hLf.symm; omega)
  have t4 : decide (Lf ≤ q) = true := decide_eq_true hqL
  clear h hfd hLf huL
  go_enter Tryz.func13, Tryz.ntmps13
  go_wp2_with fail
  refine ST.out.mono ?_
  rintro e w1 ⟨at_, ok, rfl, -, k1⟩
  have hsl1 := k1.cell (p := ⟨sb, so + u * 2 + 1, none⟩) (fun x => x) hsl
  have K1 := Lib.hid k1
  clear k1 hsl
  cases ok
  all_goals
   simp only [stErr]
   go_wp2_with fail
   go_ret2
   exact Or.inr ⟨hno.out, rfl, K1.out⟩
 have t4 : decide (Lf ≤ q) = false := decide_eq_false hqL
 have HU := Lib.hid (And.intro huL hLf)
 clear h hfd hLf huL
 go_enter Tryz.func13, Tryz.ntmps13
 go_wp2_with fail
 refine ST.out.mono ?_
 rintro e w1 ⟨at_, ok, rfl, hE, k1⟩
 have hsl1 := k1.cell (p := ⟨sb, so + u * 2 + 1, none⟩) (fun x => x) hsl
 have K1 := Lib.hid k1
 have HE := Lib.hid hE.good
 clear k1 hsl hE
 cases ok
 case false =>
  have hno : Hid (¬ FieldOk S (u : Nat) (q : Nat)) := Lib.hid (fun hf => by have := HE.out.2 hf.1; cases this)
  simp only [stErr]
  go_wp2_with fail
  go_ret2
  exact Or.inr ⟨hno.out, rfl, K1.out⟩
 case true =>
  have hg := HE.out.1 rfl
  have FD := Lib.hid (lyfield_any S hg 49 (some ⟨sb, so, none⟩) c u HU.out.1 q (by have e : Lf = (fds S u).length := HU.out.2; omega) w1 (HLS.out.2.kbF K1.out))
  rw [← HLS.out.1] at FD
  have HO : Hid (FieldOk S (u : Nat) (q : Nat)) := Lib.hid ⟨hg, by omega, by have := HU.out.1; omega, by omega, by rw [Int.toNat_natCast]; have e : Lf = (fds S u).length := HU.out.2; omega⟩
  clear hg
  simp only [stErr]
  go_wp2_with fail
  refine FD.out.mono ?_
  rintro e w2 ⟨rfl, k2⟩
  have K2 := Lib.hid (K1.out.trans k2)
  clear k2 hsl1
  go_wp2_with fail
  go_ret2
  exact Or.inl ⟨HO.out, rfl, K2.out⟩

set_option maxRecDepth 100000 in
set_option maxHeartbeats 8000000 in
theorem lySize_any (c : Int) (hc : -9223372036854775808 ≤ c ∧ c ≤ 9223372036854775807) (w : World) : Calls Tryz.prog 11 #[.int .i64 c] w fun e w' => e = .returned (.tuple #[.int .i64 (sizW c).1, .int .i64 (sizW c).2]) ∧ w = w' := by
 obtain ⟨w0, rfl⟩ : ∃ w0, w0 = w := ⟨_, rfl⟩
 by_cases h0 : c < 0
 ·have HS : Hid (sizW c = (0, 2)) := Lib.hid (by unfold sizW; rw [if_neg (by omega), if_neg (by omega), if_neg (by omega), if_neg (by omega), if_neg (by omega)])
  have t0 : decide (c < 0) = true := decide_eq_true h0
  rw [HS.out]
  go_enter Tryz.func11, Tryz.ntmps11
  go_wp2_with fail
  go_ret2
  exact ⟨rfl, rfl⟩
 ·have t0 : decide (c < 0) = false := decide_eq_false h0
  by_cases h5 : 5 ≤ c
  ·have HS : Hid (sizW c = (0, 2)) := Lib.hid (by unfold sizW; rw [if_neg (by omega), if_neg (by omega), if_neg (by omega), if_neg (by omega), if_neg (by omega)])
   have t5 : decide ((5 : Int) ≤ c) = true := decide_eq_true h5
   rw [HS.out]
   go_enter Tryz.func11, Tryz.ntmps11
   go_wp2_with fail
   go_ret2
   exact ⟨rfl, rfl⟩
  ·obtain rfl | rfl | rfl | rfl | rfl : c = 0 ∨ c = 1 ∨ c = 2 ∨ c = 3 ∨ c = 4 := by omega
   all_goals
    go_enter Tryz.func11, Tryz.ntmps11
    go_wp2_with fail
    go_ret2
    exact ⟨rfl, rfl⟩
def pw2 (k : Nat) : Int := ([1, 2, 4, 8, 16] : List Int).getD k 0
set_option maxRecDepth 100000 in
set_option maxHeartbeats 8000000 in
theorem lyClass_at (c : Int) (R : Nat) (hR5 : R ≤ 5) (key : ∀ k, k < R → c < 1 ∨ pw2 k < c) (fin : R < 5 → 1 ≤ c ∧ c ≤ pw2 R) (w : World) :
  Calls Tryz.prog 9 #[.int .i64 c] w fun e w' => e = .returned (.tuple #[.int .i64 (if R < 5 then (R : Nat) else 0), .int .i64 (if R < 5 then 0 else 2)]) ∧ KB F0 w w' := by
 obtain ⟨w0, rfl⟩ : ∃ w0, w0 = w := ⟨_, rfl⟩
 have HK := Lib.hid (And.intro key fin)
 clear key fin
 obtain ⟨E1, hE1⟩ : ∃ E : Int, E = if R < 5 then ((R : Nat) : Int) else 0 := ⟨_, rfl⟩
 obtain ⟨E2, hE2⟩ : ∃ E : Int, E = if R < 5 then (0 : Int) else 2 := ⟨_, rfl⟩
 rw [← hE1, ← hE2]
 have HE := Lib.hid (And.intro hE1 hE2)
 clear hE1 hE2
 go_enter Tryz.func9, Tryz.ntmps9
 go_wp2_with fail
 go_loopw [5] (fun kv wr => ∃ k : Nat, k ≤ R ∧ kv = .int .i64 (k : Nat) ∧ Hid (KB F0 w0 wr)) (fun kv _ => R - (intOf kv).toNat)
 case atStart => exact ⟨0, by omega, rfl, Lib.hid (KB.refl _ _)⟩
 case round =>
  obtain ⟨k, hk, rfl, hst⟩ := hrel
  by_cases hkR : k < R
  ·have h1 := HK.out.1 k hkR
   obtain rfl | rfl | rfl | rfl | rfl : k = 0 ∨ k = 1 ∨ k = 2 ∨ k = 3 ∨ k = 4 := by omega
   all_goals
    simp only [pw2, List.getD_cons_zero, List.getD_cons_succ] at h1
    by_cases hc1 : c < 1
    ·have t1 : decide ((1 : Int) ≤ c) = false := decide_eq_false (by omega)
     go_wp2_with fail
     go_roundw
     case rel => exact ⟨_, hkR, by first | rfl | go_num, hst⟩
     case measure => simp [intOf]; omega
    ·have t1 : decide ((1 : Int) ≤ c) = true := decide_eq_true (by omega)
     rcases h1 with h1 | h1
     ·exact absurd h1 hc1
     go_wp2_with fail
     go_roundw
     case rel => exact ⟨_, hkR, by first | rfl | go_num, hst⟩
     case measure => simp [intOf]; omega
  ·obtain rfl : k = R := by omega
   have hfin := HK.out.2
   obtain rfl | rfl | rfl | rfl | rfl | rfl : k = 0 ∨ k = 1 ∨ k = 2 ∨ k = 3 ∨ k = 4 ∨ k = 5 := by omega
   case inr.inr.inr.inr.inr =>
    go_wp2_with fail
    go_ret2
    exact ⟨by rw [HE.out.1, HE.out.2]; rfl, hst.out⟩
   all_goals
    obtain ⟨f1, f2⟩ := hfin (by omega)
    simp only [pw2, List.getD_cons_zero, List.getD_cons_succ] at f2
    have t1 : decide ((1 : Int) ≤ c) = true := decide_eq_true f1
    go_wp2_with fail
    go_ret2
    exact ⟨by rw [HE.out.1, HE.out.2]; rfl, hst.out⟩
theorem lyClass_any (c : Int) (w : World) : Calls Tryz.prog 9 #[.int .i64 c] w fun e w' => e = .returned (.tuple #[.int .i64 (clsW c).1, .int .i64 (clsW c).2]) ∧ KB F0 w w' := by
 have P : ∀ (R : Nat) (hR5 : R ≤ 5) (key : ∀ k, k < R → c < 1 ∨ pw2 k < c) (fin : R < 5 → 1 ≤ c ∧ c ≤ pw2 R), clsW c = (if R < 5 then ((R : Nat) : Int) else 0, if R < 5 then 0 else 2) →
   Calls Tryz.prog 9 #[.int .i64 c] w fun e w' => e = .returned (.tuple #[.int .i64 (clsW c).1, .int .i64 (clsW c).2]) ∧ KB F0 w w' := fun R h1 h2 h3 h4 => by
  rw [h4]; exact lyClass_at c R h1 h2 h3 w
 by_cases h0 : c < 1
 ·exact P 5 (by omega) (fun _ _ => Or.inl h0) (fun h => by omega) (by unfold clsW; rw [if_pos h0]; rfl)
 by_cases h1 : c ≤ 1
 ·exact P 0 (by omega) (fun k hk => by omega) (fun _ => ⟨by omega, h1⟩) (by unfold clsW; rw [if_neg h0, if_pos h1]; rfl)
 have k0 : pw2 0 < c := by show (1 : Int) < c; omega
 by_cases h2 : c ≤ 2
 ·exact P 1 (by omega) (fun k hk => by obtain rfl : k = 0 := by omega
                                       exact Or.inr k0) (fun _ => ⟨by omega, h2⟩) (by unfold clsW; rw [if_neg h0, if_neg h1, if_pos h2]; rfl)
 have k1 : pw2 1 < c := by show (2 : Int) < c; omega
 by_cases h4 : c ≤ 4
 ·exact P 2 (by omega) (fun k hk => by obtain rfl | rfl : k = 0 ∨ k = 1 := by omega
                                       ·exact Or.inr k0
                                       ·exact Or.inr k1) (fun _ => ⟨by omega, h4⟩) (by unfold clsW; rw [if_neg h0, if_neg h1, if_neg h2, if_pos h4]; rfl)
 have k2 : pw2 2 < c := by show (4 : Int) < c; omega
 by_cases h8 : c ≤ 8
 ·exact P 3 (by omega) (fun k hk => by obtain rfl | rfl | rfl : k = 0 ∨ k = 1 ∨ k = 2 := by omega
                                       ·exact Or.inr k0
                                       ·exact Or.inr k1
                                       ·exact Or.inr k2) (fun _ => ⟨by omega, h8⟩) (by unfold clsW; rw [if_neg h0, if_neg h1, if_neg h2, if_neg h4, if_pos h8]; rfl)
 have k3 : pw2 3 < c := by show (8 : Int) < c; omega
 by_cases h16 : c ≤ 16
 ·exact P 4 (by omega) (fun k hk => by obtain rfl | rfl | rfl | rfl : k = 0 ∨ k = 1 ∨ k = 2 ∨ k = 3 := by omega
                                       ·exact Or.inr k0
                                       ·exact Or.inr k1
                                       ·exact Or.inr k2
                                       ·exact Or.inr k3) (fun _ => ⟨by omega, h16⟩) (by unfold clsW; rw [if_neg h0, if_neg h1, if_neg h2, if_neg h4, if_neg h8, if_pos h16]; rfl)
 have k4 : pw2 4 < c := by show (16 : Int) < c; omega
 exact P 5 (by omega) (fun k hk => by obtain rfl | rfl | rfl | rfl | rfl : k = 0 ∨ k = 1 ∨ k = 2 ∨ k = 3 ∨ k = 4 := by omega
                                      ·exact Or.inr k0
                                      ·exact Or.inr k1
                                      ·exact Or.inr k2
                                      ·exact Or.inr k3
                                      ·exact Or.inr k4) (fun h => by omega) (by unfold clsW; rw [if_neg h0, if_neg h1, if_neg h2, if_neg h4, if_neg h8, if_neg h16]; rfl)

def SomeB (P : Bool → Prop) (w : World) (e : Ending) (w' : World) : Prop := ∃ b : Bool, e = .returned (.bool b) ∧ P b ∧ KB F0 w w'
set_option maxRecDepth 100000 in
set_option maxHeartbeats 32000000 in
theorem typeFits_any : ∀ n : Nat, n ≤ 60 → ∀ (d : Nat), d ≤ n → ∀ (t : Ty) (a : Option Addr) (c : Nat) (w : World), TyAt (n + 1) w t a c →
  Calls Tryz.prog 20 #[tyV t a c, .int .i64 (d : Nat)] w (SomeB (fun _ => True) w) := by
 intro n
 induction n with
 | zero =>
  intro _ d hd t a c w _
  obtain rfl : d = 0 := by omega
  obtain ⟨w0, rfl⟩ : ∃ w0, w0 = w := ⟨_, rfl⟩
  have HK := Lib.hid (boxTy w0 t a c).1
  unfold tyV
  go_enter Tryz.func20, Tryz.ntmps20
  go_wp2_with fail
  go_ret
  exact ⟨_, rfl, trivial, HK.out⟩
 | succ n ih =>
  intro hn d hd t a c w h
  obtain ⟨w0, rfl⟩ : ∃ w0, w0 = w := ⟨_, rfl⟩
  cases d with
  | zero =>
   have HK := Lib.hid (boxTy w0 t a c).1
   clear ih h
   unfold tyV
   go_enter Tryz.func20, Tryz.ntmps20
   go_wp2_with fail
   go_ret
   exact ⟨_, rfl, trivial, HK.out⟩
  | succ d =>
   obtain ⟨W, hW⟩ : ∃ W, W = w0.alloc (.cells #[.int .u8 t.k, .bool t.m, .int .i64 t.r, .int .i64 t.s, .slice a t.of.length c] 26) := ⟨_, rfl⟩
   obtain ⟨kb, hb⟩ := boxTy w0 t a c
   rw [← hW] at kb hb
   obtain ⟨L, hL⟩ : ∃ L, L = t.of.length := ⟨_, rfl⟩
   have c4 : W.cell? ⟨w0.heap.size, 4, none⟩ = some (.slice a L c) := by rw [hL]; exact blk_cell hb 4
   have hLc : L ≤ c := by rw [hL]; exact h.1
   have HI := Lib.hid (fun (i : Nat) (hi : i < L) => h.2 i (by rw [← hL]; exact hi))
   have IH := Lib.hid (fun (x : Int) (h0 : 0 ≤ x) (h1 : x ≤ (n : Int)) (u : Ty) (ua : Option Addr) (uc : Nat) (V : World) (hu : TyAt (n + 1) V u ua uc) => (show Calls Tryz.prog 20 #[tyV u ua uc, .int .i64 x] V (SomeB (fun _ => True) V) from by
    have := ih (by omega) x.toNat (by omega) u ua uc V hu
    rwa [show ((x.toNat : Nat) : Int) = x by omega] at this))
   rw [← hL] at hW
   have HW := Lib.hid hW
   have HK := Lib.hid kb
   have HC4 := Lib.hid c4
   unfold tyV
   rw [← hL]
   have ht0 : (((d + 1 : Nat) : Int) == 0) = false := by first | (simp; done) | (simp; omega)
   have hw1 : IntKind.i64.wrap (((d + 1 : Nat) : Int) - 1) = (d : Int) := by rw [w64 (by omega) (by omega)]; omega
   have hdn : d ≤ n := by omega
   clear hW kb hb hL h ih
   generalize t.k = tk at *
   generalize t.m = tm at *
   generalize t.r = tr at *
   generalize t.s = ts at *
   go_enter Tryz.func20, Tryz.ntmps20
   go_upto_region 1 with fail
   rw [← HW.out]
   by_cases h3 : 3 < L
   ·have d3 : decide ((3 : Int) < (L : Int)) = true := decide_eq_true (by omega)
    have d3n : decide (3 < L) = true := decide_eq_true h3
    have d3i : (3 : Int) < (L : Int) := by omega
    go_wp2_with fail
    go_ret
    exact ⟨_, rfl, trivial, HK.out⟩
   ·have d3 : decide ((3 : Int) < (L : Int)) = false := decide_eq_false (by omega)
    have d3n : decide (3 < L) = false := decide_eq_false h3
    have d3i : ¬ ((3 : Int) < (L : Int)) := by omega
    go_wp2_with fail
    clear c4 d3 d3n d3i
    go_loopg [5] L (fun g iv wr => ∃ i, i ≤ L ∧ g = L - i ∧ iv = .int .i64 (i : Nat) ∧ Hid (KB F0 W wr))
    case atStart => exact ⟨0, by omega, by omega, rfl, Lib.hid (KB.refl _ _)⟩
    case round =>
     obtain ⟨i, hi, rfl, rfl, hst⟩ := hrel
     have c4 := hst.out.cell (p := ⟨w0.heap.size, 4, none⟩) (fun x => x) HC4.out
     by_cases hit : i < L
     ·have hiI : (i : Int) < (L : Int) := by omega
      have dI : decide ((i : Int) < (L : Int)) = true := decide_eq_true hiI
      obtain ⟨b, o, ua, uc, rfl, hty, hta⟩ := HI.out i hit
      obtain ⟨t0, t1, t2, t3, t4⟩ := hty.kbF (HK.out.trans hst.out)
      have hta2 := hta.kbF (HK.out.trans hst.out)
      generalize t.of.getD i ty0 = u at t0 t1 t2 t3 t4 hta2
      have IHu := fun (x : Int) (h0 : 0 ≤ x) (h1 : x ≤ (n : Int)) => IH.out x h0 h1 u ua uc wr hta2
      unfold tyV at IHu
      have IH2 := Lib.hid IHu
      clear hty hta hta2 IHu
      generalize u.k = fk at *
      generalize u.m = fm at *
      generalize u.r = fr at *
      generalize u.s = fs at *
      generalize u.of.length = M at *
      have hi3 : i < 3 := by omega
      have hd60 : (d : Int) ≤ 60 := by omega
      have hdnI : (d : Int) ≤ (n : Int) := by omega
      go_wp2_with fail
      all_goals
       refine (IH2.out _ (by omega) (by omega)).mono ?_
       rintro e w5 ⟨bb, rfl, -, k5⟩
       have K5 := Lib.hid (hst.out.trans k5)
       clear k5 t0 t1 t2 t3 t4 c4
       cases bb
       ·go_wp2_with fail
        go_ret
        exact ⟨_, rfl, trivial, HK.out.trans K5.out⟩
       ·go_wp2_with fail
        go_roundg (L - (i + 1))
        case measure => omega
        case rel => exact ⟨i + 1, by omega, rfl, by go_num, K5⟩
     ·obtain rfl : i = L := by omega
      have dI : decide ((i : Int) < (i : Int)) = false := decide_eq_false (by omega)
      go_wp2_with fail
      go_ret
      exact ⟨_, rfl, trivial, HK.out.trans hst.out⟩

theorem stsLe {w : World} {n m : Nat} {a : Option Addr} {S : List (List Ty)} (h : StsAt n w a S) (hm : m ≤ n) : StsAt m w a S := fun i hi => by
 obtain ⟨b, o, nm, fa, fc, e, h0, h1, h2, h3⟩ := h i hi
 refine ⟨b, o, nm, fa, fc, e, h0, h1, h2, fun j hj => ?_⟩
 obtain ⟨b, o, nm, a', c', e, h4, h5, h6⟩ := h3 j hj
 exact ⟨b, o, nm, a', c', e, h4, h5, h6.le hm⟩
def FitEnd (S : List (List Ty)) (w : World) (e : Ending) (w' : World) : Prop := ∃ f : Bool, e = .returned (.bool f) ∧ (f = true → S.length ≤ 60 ∧ ∀ i, (fds S i).length ≤ 60) ∧ KB F0 w w'
theorem fitEnd_no {S : List (List Ty)} {w w' : World} (hk : KB F0 w w') : FitEnd S w (.returned (.bool false)) w' := ⟨false, rfl, (fun h => by cases h), hk⟩
set_option maxRecDepth 100000 in
set_option maxHeartbeats 16000000 in
theorem lyFit_any (S : List (List Ty)) (a : Option Addr) (c : Nat) (t : Ty) (ta : Option Addr) (tc : Nat) (w : World) (h : StsAt 61 w a S) (ht : TyAt 61 w t ta tc) :
  Calls Tryz.prog 7 #[.slice a S.length c, tyV t ta tc] w (FitEnd S w) := by
 obtain ⟨w0, rfl⟩ : ∃ w0, w0 = w := ⟨_, rfl⟩
 obtain ⟨W, hW⟩ : ∃ W, W = w0.alloc (.cells #[.int .u8 t.k, .bool t.m, .int .i64 t.r, .int .i64 t.s, .slice ta t.of.length tc] 26) := ⟨_, rfl⟩
 obtain ⟨kb, hb⟩ := boxTy w0 t ta tc
 rw [← hW] at kb hb
 obtain ⟨c0, c1, c2, c3, c4⟩ := TyCells.of_block hb
 have TF := Lib.hid (typeFits_any 60 (by omega) 60 (by omega) t ta tc W (ht.kbF kb))
 have HW := Lib.hid hW
 have HB := Lib.hid (And.intro kb h)
 obtain ⟨LS, hLS⟩ : ∃ L, L = S.length := ⟨_, rfl⟩
 rw [← hLS]
 have HLS := Lib.hid hLS
 clear kb hb hW h ht hLS
 unfold tyV at TF ⊢
 simp only [Nat.zero_add] at c0 c1 c2 c3 c4
 by_cases h60 : 60 < LS
 ·have d0 : decide ((60 : Int) < (LS : Int)) = true := decide_eq_true (by omega)
  have d0n : decide (60 < LS) = true := decide_eq_true h60
  go_enter Tryz.func7, Tryz.ntmps7
  go_upto_region 1 with fail
  rw [← HW.out]
  go_wp2_with fail
  go_ret
  exact fitEnd_no HB.out.1
 ·have d0 : decide ((60 : Int) < (LS : Int)) = false := decide_eq_false (by omega)
  have d0n : decide (60 < LS) = false := decide_eq_false h60
  go_enter Tryz.func7, Tryz.ntmps7
  go_upto_region 1 with fail
  rw [← HW.out]
  go_wp2_with fail
  refine TF.out.mono ?_
  rintro e w2 ⟨f, rfl, -, k2⟩
  have K2 := Lib.hid (HB.out.1.trans k2)
  clear k2 c0 c1 c2 c3 c4
  cases f
  case false =>
   go_wp2_with fail
   go_ret
   exact fitEnd_no K2.out
  case true =>
   go_wp2_with fail
   go_loopg [5] LS (fun g iv wr => ∃ i, i ≤ LS ∧ g = LS - i ∧ iv = .int .i64 (i : Nat) ∧ Hid (KB F0 w0 wr ∧ ∀ j, j < i → (fds S j).length ≤ 60))
   case atStart => exact ⟨0, by omega, by omega, rfl, Lib.hid ⟨K2.out, fun j hj => by omega⟩⟩
   case round =>
    obtain ⟨i, hi, rfl, rfl, hst⟩ := hrel
    obtain ⟨wi, rfl⟩ : ∃ w, w = wr := ⟨_, rfl⟩
    by_cases hlt : i < LS
    ·have hiI : (i : Int) < (LS : Int) := by omega
     have dI : decide ((i : Int) < (LS : Int)) = true := decide_eq_true hiI
     obtain ⟨sb, so, snm, sfa, sfc, rfl, -, hsl0, hsc, hfd⟩ := HB.out.2 i (by rw [← HLS.out]; exact hlt)
     have hsl := hst.out.1.cell (p := ⟨sb, so + i * 2 + 1, none⟩) (fun x => x) hsl0
     have hFu : S.getD i [] = fds S i := rfl
     rw [hFu] at hsl0 hsl hsc hfd
     obtain ⟨Lf, hLf⟩ : ∃ L, L = (fds S i).length := ⟨_, rfl⟩
     rw [← hLf] at hsl0 hsl hsc
     have HF := Lib.hid (And.intro hLf (And.intro hfd hsl0))
     by_cases hf60 : 60 < Lf
     ·have d1 : decide ((60 : Int) < (Lf : Int)) = true := decide_eq_true (by omega)
      have d1n : decide (60 < Lf) = true := decide_eq_true hf60
      clear hfd hsl0 hLf hFu
      go_wp2_with fail
      go_ret
      exact fitEnd_no hst.out.1
     ·have d1 : decide ((60 : Int) < (Lf : Int)) = false := decide_eq_false (by omega)
      have d1n : decide (60 < Lf) = false := decide_eq_false hf60
      clear hfd hsl0 hLf hFu
      go_wp2_with fail
      go_loopg [6] Lf (fun g2 qv wq => ∃ q, q ≤ Lf ∧ g2 = Lf - q ∧ qv = .int .i64 (q : Nat) ∧ Hid (KB F0 w0 wq))
      case atStart => exact ⟨0, by omega, by omega, rfl, Lib.hid hst.out.1⟩
      case round =>
       obtain ⟨q, hq, rfl, rfl, hsq⟩ := hrel
       obtain ⟨wq, rfl⟩ : ∃ w, w = wr := ⟨_, rfl⟩
       have hsl := hsq.out.cell (p := ⟨sb, so + i * 2 + 1, none⟩) (fun x => x) HF.out.2.2
       by_cases hqlt : q < Lf
       ·have hqI : (q : Int) < (Lf : Int) := by omega
        have dQ : decide ((q : Int) < (Lf : Int)) = true := decide_eq_true hqI
        obtain ⟨fb, fo, fnm, fa', fc', rfl, hnm, hty, hta⟩ := HF.out.2.1 q (by rw [← HF.out.1]; exact hqlt)
        obtain ⟨t0, t1, t2, t3, t4⟩ := hty.kbF hsq.out
        have CL := Lib.hid (typeFits_any 60 (by omega) 60 (by omega) ((fds S i).getD q ty0) fa' fc' wq (hta.kbF hsq.out))
        generalize (fds S i).getD q ty0 = ft at t0 t1 t2 t3 t4 CL
        unfold tyV at CL
        clear hnm hty hta
        generalize ft.k = fk at *
        generalize ft.m = fm at *
        generalize ft.r = fr at *
        generalize ft.s = fs at *
        generalize ft.of.length = N at *
        go_wp2_with fail
        refine CL.out.mono ?_
        rintro e w3 ⟨f, rfl, -, k3⟩
        have K3 := Lib.hid (hsq.out.trans k3)
        clear k3 t0 t1 t2 t3 t4 hsl
        cases f
        case false =>
         go_wp2_with fail
         go_ret
         exact fitEnd_no K3.out
        case true =>
         go_wp2_with fail
         go_roundg (Lf - (q + 1))
         case measure => omega
         case rel => exact ⟨q + 1, by omega, rfl, by go_num, K3⟩
       ·obtain rfl : q = Lf := by omega
        have dQ : decide ((q : Int) < (q : Int)) = false := decide_eq_false (by omega)
        have HN : Hid (KB F0 w0 wq ∧ ∀ j, j < i + 1 → (fds S j).length ≤ 60) := Lib.hid ⟨hsq.out, fun j hj => by
         rcases Nat.lt_or_eq_of_le (Nat.lt_succ_iff.1 hj) with h1 | rfl
         ·exact hst.out.2 j h1
         ·have := HF.out.1; omega⟩
        go_wp2_with fail
        go_roundg (LS - (i + 1))
        case measure => omega
        case rel => exact ⟨i + 1, by omega, rfl, by go_num, HN⟩
    ·obtain rfl : i = LS := by omega
     have dI : decide ((i : Int) < (i : Int)) = false := decide_eq_false (by omega)
     have HF : Hid (S.length ≤ 60 ∧ ∀ j, (fds S j).length ≤ 60) := Lib.hid ⟨by rw [← HLS.out]; omega, fun j => by
      by_cases hj : j < i
      ·exact hst.out.2 j hj
      ·rw [fds_out (by rw [← HLS.out]; exact hj)]; simp⟩
     go_wp2_with fail
     go_ret
     exact ⟨true, rfl, fun _ => HF.out, hst.out.1⟩
end Go.Proofs.YtaeppaaolkcbbaaGreatDoor

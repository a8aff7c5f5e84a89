/- graph.rest$1: no operand. -/
import Derived.Test.YtaeppaaolkcbbaaGreatDoorMg23
import Derived.Test.YtaeppaaolkcbbaaGreatDoorMg11
namespace Go.Proofs.YtaeppaaolkcbbaaGreatDoor
open Go.RowKit

structure Opd where
 k : Int
 n : Int
 p : Pl
def opV (o : Opd) (pa : Option Addr) (pc : Nat) : Value := .agg #[.int .u8 o.k, .int .i64 o.n, .int .i64 o.p.loc, .slice pa o.p.path.length pc]
def noneB (o : Opd) : Bool := decide (o.k = 0) && (decide (o.n = 0) && zeroB o.p)
set_option maxRecDepth 100000 in
set_option maxHeartbeats 16000000 in
theorem grRest1_any (o : Opd) (pa : Option Addr) (pc : Nat) (w : World) : Calls Tryz.prog 160 #[opV o pa pc] w fun e w' => e = .returned (.bool (noneB o)) ∧ KB F0 w w' := by
 obtain ⟨w0, rfl⟩ : ∃ w0, w0 = w := ⟨_, rfl⟩
 obtain ⟨W, hW⟩ : ∃ W, W = w0.alloc (.cells #[.int .u8 o.k, .int .i64 o.n, .int .i64 o.p.loc, .slice pa o.p.path.length pc] 126) := ⟨_, rfl⟩
 have hk := (KB.refl F0 w0).alloc (.cells #[.int .u8 o.k, .int .i64 o.n, .int .i64 o.p.loc, .slice pa o.p.path.length pc] 126)
 have hb := alloc_new w0 (.cells #[.int .u8 o.k, .int .i64 o.n, .int .i64 o.p.loc, .slice pa o.p.path.length pc] 126)
 rw [← hW] at hk hb
 have p0 : W.cell? ⟨w0.heap.size, 0, none⟩ = some (.int .u8 o.k) := blk_cell hb 0
 have p1 : W.cell? ⟨w0.heap.size, 1, none⟩ = some (.int .i64 o.n) := blk_cell hb 1
 have p2 : W.cell? ⟨w0.heap.size, 2, none⟩ = some (.int .i64 o.p.loc) := blk_cell hb 2
 have p3 : W.cell? ⟨w0.heap.size, 3, none⟩ = some (.slice pa o.p.path.length pc) := blk_cell hb 3
 have HK := Lib.hid hk
 have HW := Lib.hid hW
 have Z := Lib.hid (grZero_any o.p pa pc W)
 unfold opV noneB
 unfold plV at Z
 generalize zeroB o.p = z at *
 generalize o.p.path.length = N at *
 generalize o.p.loc = x at *
 generalize o.n = n at *
 generalize o.k = k at *
 clear hk hb hW
 go_enter Tryz.func160, Tryz.ntmps160
 go_upto_region 1 with fail
 rw [← HW.out]
 by_cases h1 : k = 0
 ·subst h1
  by_cases h2 : n = 0
  ·subst h2
   go_wp2_with fail
   refine Z.out.mono ?_
   rintro e w1 ⟨rfl, k1⟩
   have K1 := Lib.hid (HK.out.trans k1)
   clear k1 p0 p1 p2 p3 Z
   go_wp2_with fail
   go_ret
   exact ⟨ret_eq (by simp), K1.out⟩
  ·have h4 : (n == 0) = false := by simp [h2]
   have h5 : decide (n = 0) = false := decide_eq_false h2
   go_wp2_with fail
   go_ret
   exact ⟨ret_eq (by simp [h4, h5]), HK.out⟩
 ·have h4 : (k == 0) = false := by simp [h1]
  have h5 : decide (k = 0) = false := decide_eq_false h1
  go_wp2_with fail
  go_ret
  exact ⟨ret_eq (by simp [h4, h5]), HK.out⟩
def opF (S : List (List Ty)) (L : List Ty) (o : Opd) : Ty × Bool :=
 if o.k = 1 then (.mk 1 false 0 0 [], zeroB o.p)
 else if o.k = 2 then (.mk 2 false 0 0 [], zeroB o.p && (decide (o.n = 0) || decide (o.n = 1)))
 else if o.k = 3 then match spotF S L o.p with
  | none => (ty0, false)
  | some x => (x.1, decide (o.p.path.length ≤ 8) && (decide (o.n = 0) && copB x.1))
 else if o.k = 4 then match spotF S L o.p with
  | none => (ty0, false)
  | some x => (x.1, decide (o.p.path.length ≤ 8) && (decide (o.n = 0) && (!copB x.1 && decide (mostI x.2 < 2))))
 else (ty0, false)
def OpEnd (S : List (List Ty)) (wb w : World) (x : Ty × Bool) (e : Ending) (w' : World) : Prop := KB F0 w w' ∧ ∃ ta tc, e = .returned (.tuple #[tyV x.1 ta tc, .bool x.2]) ∧ ((ta = none ∧ tc = 0 ∧ x.1.of = []) ∨ OnWay S wb x.1 ta tc)
theorem ret_tyI2 {fn : Func} {R : Ending → World → Prop} {a : Act} {w : World} {p q X : Nat} {k : Int} {m : Bool} {r s : Int} {v u : Value} (h : fn.results = #[.cell p 26, .tmp q]) (hp : a.tmps.getD p undef = .pointer (some ⟨X, 0, none⟩)) (hq : a.tmps.getD q undef = u)
  (hc : w.heap[X]? = some (.cells #[.int .u8 k, .bool m, .int .i64 r, .int .i64 s, v] 26 (0, 0))) (hd : a.defers = []) (hR : R (.returned (.tuple #[.agg #[.int .u8 k, .bool m, .int .i64 r, .int .i64 s, v], u])) w) : bodyPost Tryz.prog fn R .ret a w := by
 refine bodyPost_ret (v := .tuple #[.agg #[.int .u8 k, .bool m, .int .i64 r, .int .i64 s, v], u]) ?_ hd hR
 have hp' : a.tmps[p]?.getD undef = .pointer (some ⟨X, 0, none⟩) := by simpa using hp
 have hq' : a.tmps[q]?.getD undef = u := by simpa using hq
 have c0 : w.cell? ⟨X, 0, none⟩ = some (.int .u8 k) := blk_cell hc 0
 have c1 : w.cell? ⟨X, 1, none⟩ = some (.bool m) := blk_cell hc 1
 have c2 : w.cell? ⟨X, 2, none⟩ = some (.int .i64 r) := blk_cell hc 2
 have c3 : w.cell? ⟨X, 3, none⟩ = some (.int .i64 s) := blk_cell hc 3
 have c4 : w.cell? ⟨X, 4, none⟩ = some v := blk_cell hc 4
 simp only [results, h]
 go_simp
set_option maxRecDepth 100000 in
set_option maxHeartbeats 64000000 in
theorem grOperand_any (S : List (List Ty)) (hn : S.length ≤ 1000000) (sa : Option Addr) (sc : Nat) (hsc : S.length ≤ sc) (L : List Ty) (hll : L.length ≤ 1000000) (la : Option Addr) (lc : Nat) (hM : AllT S L) (o : Opd) (pa : Option Addr) (pc : Nat)
  (fa : Option Addr) (fn fc : Nat) (mn : Int) (nm : ByteArray) (lv : Int) (oa : Option Addr) (on oc : Nat) (par : Int) (na : Option Addr) (nn nc : Nat) (ga : Option Addr) (gn gc : Nat) (wb w : World) (hwb : KB F0 wb w)
  (hS : StsAt 49 wb sa S) (hL : TysAt 49 wb la L) (hp : PlAt w o.p pa pc) :
  Calls Tryz.prog 136 #[askV sa S.length sc fa fn fc mn nm lv oa on oc par la L.length lc na nn nc ga gn gc, opV o pa pc] w (OpEnd S wb w (opF S L o)) := by
 obtain ⟨w0, rfl⟩ : ∃ w0, w0 = w := ⟨_, rfl⟩
 have HWB := Lib.hid hwb
 clear hwb
 obtain ⟨hk, hb1, hb2, hb3, hsz⟩ := new3 w0 #[.slice sa S.length sc, .slice fa fn fc, .int .i64 mn, .string nm, .int .i64 lv, .slice oa on oc, .int .i64 par, .slice la L.length lc, .slice na nn nc, .slice ga gn gc] #[.int .u8 o.k, .int .i64 o.n, .int .i64 o.p.loc, .slice pa o.p.path.length pc] #[.int .u8 0, .bool false, .int .i64 0, .int .i64 0, .slice none 0 0] 175 126 26
 obtain ⟨W, hW⟩ : ∃ W, W = (((w0.alloc (.cells #[.slice sa S.length sc, .slice fa fn fc, .int .i64 mn, .string nm, .int .i64 lv, .slice oa on oc, .int .i64 par, .slice la L.length lc, .slice na nn nc, .slice ga gn gc] 175)).alloc (.cells #[.int .u8 o.k, .int .i64 o.n, .int .i64 o.p.loc, .slice pa o.p.path.length pc] 126)).alloc (.cells #[.int .u8 0, .bool false, .int .i64 0, .int .i64 0, .slice none 0 0] 26)) := ⟨_, rfl⟩
 rw [← hW] at hk hb1 hb2 hb3 hsz
 have p0 : W.cell? ⟨w0.heap.size + 1, 0, none⟩ = some (.int .u8 o.k) := blk_cell hb2 0
 have p1 : W.cell? ⟨w0.heap.size + 1, 1, none⟩ = some (.int .i64 o.n) := blk_cell hb2 1
 have p2 : W.cell? ⟨w0.heap.size + 1, 2, none⟩ = some (.int .i64 o.p.loc) := blk_cell hb2 2
 have p3 : W.cell? ⟨w0.heap.size + 1, 3, none⟩ = some (.slice pa o.p.path.length pc) := blk_cell hb2 3
 have d0 : W.cell? ⟨w0.heap.size + 1 + 1, 0, none⟩ = some (.int .u8 0) := blk_cell hb3 0
 have d1 : W.cell? ⟨w0.heap.size + 1 + 1, 1, none⟩ = some (.bool false) := blk_cell hb3 1
 have d2 : W.cell? ⟨w0.heap.size + 1 + 1, 2, none⟩ = some (.int .i64 0) := blk_cell hb3 2
 have d3 : W.cell? ⟨w0.heap.size + 1 + 1, 3, none⟩ = some (.int .i64 0) := blk_cell hb3 3
 have d4 : W.cell? ⟨w0.heap.size + 1 + 1, 4, none⟩ = some (.slice none 0 0) := blk_cell hb3 4
 have f0 := blk_frozen hb3 0
 have f1 := blk_frozen hb3 1
 have f2 := blk_frozen hb3 2
 have f3 := blk_frozen hb3 3
 have f4 := blk_frozen hb3 4
 have HB := Lib.hid (And.intro hk (And.intro hb1 (And.intro hb2 (And.intro hb3 hsz))))
 have HH := Lib.hid (And.intro hS (And.intro hL hp))
 have HW := Lib.hid hW
 have Z := Lib.hid (fun V => grZero_any o.p pa pc V)
 obtain ⟨x, hx⟩ : ∃ x, x = opF S L o := ⟨_, rfl⟩
 rw [← hx]
 have HX := Lib.hid hx
 unfold opV askV
 unfold plV at Z
 obtain ⟨z, hz⟩ : ∃ z, z = zeroB o.p := ⟨_, rfl⟩
 rw [← hz] at Z
 have HZ := Lib.hid hz
 obtain ⟨k, hk'⟩ : ∃ k, k = o.k := ⟨_, rfl⟩
 rw [← hk'] at p0 ⊢
 have HKK := Lib.hid hk'
 clear hk hb1 hb2 hb3 hsz hS hL hp hW hx hz hk'
 go_enter Tryz.func136, Tryz.ntmps136
 go_upto_region 1 with fail
 rw [HKK.out, ← HW.out, ← HKK.out]
 by_cases h1 : k = 1
 ·have HXE : Hid (x = (.mk 1 false 0 0 [], z)) := Lib.hid (by rw [HX.out, opF, if_pos (by rw [← HKK.out]; exact h1), HZ.out])
  subst h1
  go_wp2_with fail
  refine (Z.out _).mono ?_
  rintro e w1 ⟨rfl, k1⟩
  have K1 := Lib.hid k1
  have q3 := k1.heap (fun x => x) HB.out.2.2.2.1
  clear p0 p1 p2 p3 d0 d1 d2 d3 d4 f0 f1 f2 f3 f4 k1
  have d0 : w1.cell? ⟨w0.heap.size + 1 + 1, 0, none⟩ = some (.int .u8 0) := blk_cell q3 0
  have d1 : w1.cell? ⟨w0.heap.size + 1 + 1, 1, none⟩ = some (.bool false) := blk_cell q3 1
  have d2 : w1.cell? ⟨w0.heap.size + 1 + 1, 2, none⟩ = some (.int .i64 0) := blk_cell q3 2
  have d3 : w1.cell? ⟨w0.heap.size + 1 + 1, 3, none⟩ = some (.int .i64 0) := blk_cell q3 3
  have d4 : w1.cell? ⟨w0.heap.size + 1 + 1, 4, none⟩ = some (.slice none 0 0) := blk_cell q3 4
  have f0 := blk_frozen q3 0
  have f1 := blk_frozen q3 1
  have f2 := blk_frozen q3 2
  have f3 := blk_frozen q3 3
  have f4 := blk_frozen q3 4
  go_wp2_with fail
  refine ret_tyI2 (X := w0.heap.size + 1 + 1) rfl rfl rfl (set5_blk q3 (.int .u8 1) (.bool false) (.int .i64 0) (.int .i64 0) (.slice none 0 0)) rfl ?_
  exact ⟨set5_new (HB.out.1.trans K1.out) (show w0.heap.size ≤ w0.heap.size + 1 + 1 by omega) _ _ _ _ _, none, 0, by rw [HXE.out]; rfl, by rw [HXE.out]; exact Or.inl ⟨rfl, rfl, rfl⟩⟩
 obtain ⟨V2, hV2⟩ : ∃ V2 : World, V2.heap.size = w0.heap.size + 1 + 1 := ⟨(w0.alloc (.cells #[] 26)).alloc (.cells #[] 26), by simp⟩
 have HRB := Lib.hid HB.out.2.2.2.1
 by_cases h2 : k = 2
 ·have HXE : Hid (x = (.mk 2 false 0 0 [], z && (decide (o.n = 0) || decide (o.n = 1)))) := Lib.hid (by rw [HX.out, opF, if_neg (by rw [← HKK.out]; exact h1), if_pos (by rw [← HKK.out]; exact h2), HZ.out])
  subst h2
  have hp1 : ∀ w, St.GY 26 5 (fun cs => cs = #[.int .u8 2, .bool false, .int .i64 0, .int .i64 0, .slice none 0 0]) V2.heap.size W w → w.cell? ⟨w0.heap.size + 1, 1, none⟩ = some (.int .i64 o.n) := fun w hG => KB.cell (p := ⟨w0.heap.size + 1, 1, none⟩) hG.1 (fun hx => by have := hx.1; simp only at this; omega) p1
  have hp23a : ∀ w, St.GY 26 5 (fun cs => cs = #[.int .u8 2, .bool false, .int .i64 0, .int .i64 0, .slice none 0 0]) V2.heap.size W w → w.cell? ⟨w0.heap.size + 1, 2, none⟩ = some (.int .i64 o.p.loc) ∧ w.cell? ⟨w0.heap.size + 1, 3, none⟩ = some (.slice pa o.p.path.length pc) := fun w hG => ⟨KB.cell (p := ⟨w0.heap.size + 1, 2, none⟩) hG.1 (fun hx => by have := hx.1; simp only at this; omega) p2, KB.cell (p := ⟨w0.heap.size + 1, 3, none⟩) hG.1 (fun hx => by have := hx.1; simp only at this; omega) p3⟩
  have hp2 : ∀ w, St.GY 26 5 (fun cs => cs = #[.int .u8 2, .bool false, .int .i64 0, .int .i64 0, .slice none 0 0]) V2.heap.size W w → w.cell? ⟨w0.heap.size + 1, 2, none⟩ = some (.int .i64 o.p.loc) := fun w hG => (hp23a w hG).1
  have hp3 : ∀ w, St.GY 26 5 (fun cs => cs = #[.int .u8 2, .bool false, .int .i64 0, .int .i64 0, .slice none 0 0]) V2.heap.size W w → w.cell? ⟨w0.heap.size + 1, 3, none⟩ = some (.slice pa o.p.path.length pc) := fun w hG => (hp23a w hG).2
  cases z with
  | false =>
   go_upto_region 5 with fail
   refine St.wp_region_rn 16 (St.GY 26 5 (fun cs => cs = #[.int .u8 2, .bool false, .int .i64 0, .int .i64 0, .slice none 0 0]) V2.heap.size) (St.kindXn [(3, (fun _ y => y = .bool false), fun _ _ _ _ => True), (14, fun _ y => y = undef, St.HasT 26 5 V2.heap.size (fun cs => cs = #[.int .u8 2, .bool false, .int .i64 0, .int .i64 0, .slice none 0 0]))]) (by kernel_rfl) (by kernel_rfl) St.gy_trans St.gy_refl (St.gy_kbF (KB.refl _ _).drew) (fun _ _ h => h.size) (St.kindXn_mono _ (by intro q hq; simp only [List.mem_cons, List.not_mem_nil, or_false] at hq; rcases hq with rfl | rfl; exact fun _ _ _ _ _ _ h => h; exact St.hasT_gy)) ?_
   simp only [pT, pU, pV, pW]
   refine St.rn_det (by kernel_rfl) rfl (by intro w hG hH; go_simp; first | done | with_reducible rfl) ?_
   simp only [Act.put, pA, pZ, pS]
   refine St.rn_det (by kernel_rfl) rfl (by intro w hG hH; go_simp; first | done | with_reducible rfl) ?_
   simp only [Act.put, pA, pZ, pS]
   refine St.rn_det (by kernel_rfl) rfl (by intro w hG hH; have c0 := hp2 w hG; have c1 := hp3 w hG; go_simp; first | done | with_reducible rfl) ?_
   simp only [Act.put, pA, pZ, pS]
   refine St.rn_plain (by kernel_rfl) rfl ⟨_, rfl⟩ (fun _ _ h => h.size) (by
    intro w hG hH
    refine St.opVal_call (by go_simp; first | done | exact ⟨⟨rfl, rfl⟩, rfl⟩) ?_
    refine (Z.out w).mono ?_
    rintro e w' ⟨rfl, hk⟩
    exact ⟨_, rfl, rfl, St.gy_kbF hk, fun _ => trivial⟩) ?_
   rintro y g3 rfl
   simp only [Act.put, pA, pZ, pS]
   refine St.rn_det (by kernel_rfl) rfl (by intro w hG hH; go_simp; first | done | with_reducible rfl) ?_
   simp only [Act.put, pA, pZ, pS]
   refine St.rn_skip (by kernel_rfl) ?_
   simp only [Act.put, pA, pZ, pS]
   refine St.rn_skip (by kernel_rfl) ?_
   simp only [Act.put, pA, pZ, pS]
   refine St.rn_skip (by kernel_rfl) ?_
   simp only [Act.put, pA, pZ, pS]
   refine St.rn_skip (by kernel_rfl) ?_
   simp only [Act.put, pA, pZ, pS]
   refine St.rn_skip (by kernel_rfl) ?_
   simp only [Act.put, pA, pZ, pS]
   refine St.rn_skip (by kernel_rfl) ?_
   simp only [Act.put, pA, pZ, pS]
   refine St.rn_skip (by kernel_rfl) ?_
   simp only [Act.put, pA, pZ, pS]
   refine St.rn_skip (by kernel_rfl) ?_
   simp only [Act.put, pA, pZ, pS]
   refine St.rn_det (by kernel_rfl) rfl (by intro w hG hH; go_simp; first | done | with_reducible rfl) ?_
   simp only [Act.put, pA, pZ, pS]
   refine St.rn_plain (by kernel_rfl) rfl ⟨_, rfl⟩ (fun _ _ h => h.size) (by
    intro w hG hH
    obtain ⟨cs, hz, hc, -⟩ := hG.2 (w0.heap.size + 1 + 1) _ (by omega) rfl HRB.out
    obtain ⟨q0, q1, q2, q3, q4, rfl⟩ := arr5 hz
    have m0 := blk_cell hc 0
    have m1 := blk_cell hc 1
    have m2 := blk_cell hc 2
    have m3 := blk_cell hc 3
    have m4 := blk_cell hc 4
    have n0 := blk_frozen hc 0
    have n1 := blk_frozen hc 1
    have n2 := blk_frozen hc 2
    have n3 := blk_frozen hc 3
    have n4 := blk_frozen hc 4
    simp only [List.getElem?_toArray, List.getElem?_cons_zero, List.getElem?_cons_succ] at m0 m1 m2 m3 m4
    refine St.opVal_storeT (w0 := V2) (w' := set5 w (w0.heap.size + 1 + 1) (.int .u8 2) (.bool false) (.int .i64 0) (.int .i64 0) (.slice none 0 0)) (by omega) hc rfl rfl (set5_kb w _ _ _ _ _ _) (set5_blk hc _ _ _ _ _) rfl ?_
    unfold set5
    go_simp
    first | done | rfl) ?_
   rintro y g14 rfl
   simp only [Act.put, pA, pZ, pS]
   refine St.rn_det (by kernel_rfl) rfl (by intro w hG hH; go_simp; first | done | with_reducible rfl) ?_
   simp only [Act.put, pA, pZ, pS]
   refine St.rn_nil (fun w hG hH => ?_)
   have f14 := hH _ List.mem_cons_self (w0.heap.size + 1 + 1) rfl
   have K8 := Lib.hid (HB.out.1.oldS hG.1 (fun k hk e => by have := e.1; omega))
   obtain ⟨-, cs, -, hcb, hcw⟩ := f14
   subst hcw
   clear hG hH
   obtain ⟨w8, rfl⟩ : ∃ q, q = w := ⟨_, rfl⟩
   have HC8 := Lib.hid hcb
   go_wp2_with fail
   refine ret_tyI2 (X := w0.heap.size + 1 + 1) rfl rfl rfl HC8.out rfl ?_
   exact ⟨K8.out, none, 0, by rw [HXE.out]; rfl, by rw [HXE.out]; exact Or.inl ⟨rfl, rfl, rfl⟩⟩
  | true =>
   by_cases hn0 : o.n = 0
   ·have HN0 := Lib.hid hn0
    rw [hn0] at hp1
    have HXF : Hid (x = (.mk 2 false 0 0 [], true)) := Lib.hid (by rw [HXE.out, HN0.out]; rfl)
    clear hn0
    go_upto_region 5 with fail
    refine St.wp_region_rn 16 (St.GY 26 5 (fun cs => cs = #[.int .u8 2, .bool false, .int .i64 0, .int .i64 0, .slice none 0 0]) V2.heap.size) (St.kindXn [(3, (fun _ y => y = .bool true), fun _ _ _ _ => True), (14, fun _ y => y = undef, St.HasT 26 5 V2.heap.size (fun cs => cs = #[.int .u8 2, .bool false, .int .i64 0, .int .i64 0, .slice none 0 0]))]) (by kernel_rfl) (by kernel_rfl) St.gy_trans St.gy_refl (St.gy_kbF (KB.refl _ _).drew) (fun _ _ h => h.size) (St.kindXn_mono _ (by intro q hq; simp only [List.mem_cons, List.not_mem_nil, or_false] at hq; rcases hq with rfl | rfl; exact fun _ _ _ _ _ _ h => h; exact St.hasT_gy)) ?_
    simp only [pT, pU, pV, pW]
    refine St.rn_det (by kernel_rfl) rfl (by intro w hG hH; go_simp; first | done | with_reducible rfl) ?_
    simp only [Act.put, pA, pZ, pS]
    refine St.rn_det (by kernel_rfl) rfl (by intro w hG hH; go_simp; first | done | with_reducible rfl) ?_
    simp only [Act.put, pA, pZ, pS]
    refine St.rn_det (by kernel_rfl) rfl (by intro w hG hH; have c0 := hp2 w hG; have c1 := hp3 w hG; go_simp; first | done | with_reducible rfl) ?_
    simp only [Act.put, pA, pZ, pS]
    refine St.rn_plain (by kernel_rfl) rfl ⟨_, rfl⟩ (fun _ _ h => h.size) (by
     intro w hG hH
     refine St.opVal_call (by go_simp; first | done | exact ⟨⟨rfl, rfl⟩, rfl⟩) ?_
     refine (Z.out w).mono ?_
     rintro e w' ⟨rfl, hk⟩
     exact ⟨_, rfl, rfl, St.gy_kbF hk, fun _ => trivial⟩) ?_
    rintro y g3 rfl
    simp only [Act.put, pA, pZ, pS]
    refine St.rn_det (by kernel_rfl) rfl (by intro w hG hH; go_simp; first | done | with_reducible rfl) ?_
    simp only [Act.put, pA, pZ, pS]
    refine St.rn_det (by kernel_rfl) rfl (by intro w hG hH; go_simp; first | done | with_reducible rfl) ?_
    simp only [Act.put, pA, pZ, pS]
    refine St.rn_det (by kernel_rfl) rfl (by intro w hG hH; have c0 := hp1 w hG; go_simp; first | done | with_reducible rfl) ?_
    simp only [Act.put, pA, pZ, pS]
    refine St.rn_det (by kernel_rfl) rfl (by intro w hG hH; go_simp; first | done | with_reducible rfl) ?_
    simp only [Act.put, pA, pZ, pS]
    refine St.rn_det (by kernel_rfl) rfl (by intro w hG hH; go_simp; first | done | with_reducible rfl) ?_
    simp only [Act.put, pA, pZ, pS]
    refine St.rn_skip (by kernel_rfl) ?_
    simp only [Act.put, pA, pZ, pS]
    refine St.rn_skip (by kernel_rfl) ?_
    simp only [Act.put, pA, pZ, pS]
    refine St.rn_skip (by kernel_rfl) ?_
    simp only [Act.put, pA, pZ, pS]
    refine St.rn_det (by kernel_rfl) rfl (by intro w hG hH; go_simp; first | done | with_reducible rfl) ?_
    simp only [Act.put, pA, pZ, pS]
    refine St.rn_det (by kernel_rfl) rfl (by intro w hG hH; go_simp; first | done | with_reducible rfl) ?_
    simp only [Act.put, pA, pZ, pS]
    refine St.rn_plain (by kernel_rfl) rfl ⟨_, rfl⟩ (fun _ _ h => h.size) (by
     intro w hG hH
     obtain ⟨cs, hz, hc, -⟩ := hG.2 (w0.heap.size + 1 + 1) _ (by omega) rfl HRB.out
     obtain ⟨q0, q1, q2, q3, q4, rfl⟩ := arr5 hz
     have m0 := blk_cell hc 0
     have m1 := blk_cell hc 1
     have m2 := blk_cell hc 2
     have m3 := blk_cell hc 3
     have m4 := blk_cell hc 4
     have n0 := blk_frozen hc 0
     have n1 := blk_frozen hc 1
     have n2 := blk_frozen hc 2
     have n3 := blk_frozen hc 3
     have n4 := blk_frozen hc 4
     simp only [List.getElem?_toArray, List.getElem?_cons_zero, List.getElem?_cons_succ] at m0 m1 m2 m3 m4
     refine St.opVal_storeT (w0 := V2) (w' := set5 w (w0.heap.size + 1 + 1) (.int .u8 2) (.bool false) (.int .i64 0) (.int .i64 0) (.slice none 0 0)) (by omega) hc rfl rfl (set5_kb w _ _ _ _ _ _) (set5_blk hc _ _ _ _ _) rfl ?_
     unfold set5
     go_simp
     first | done | rfl) ?_
    rintro y g14 rfl
    simp only [Act.put, pA, pZ, pS]
    refine St.rn_det (by kernel_rfl) rfl (by intro w hG hH; go_simp; first | done | with_reducible rfl) ?_
    simp only [Act.put, pA, pZ, pS]
    refine St.rn_nil (fun w hG hH => ?_)
    have f14 := hH _ List.mem_cons_self (w0.heap.size + 1 + 1) rfl
    have K8 := Lib.hid (HB.out.1.oldS hG.1 (fun k hk e => by have := e.1; omega))
    obtain ⟨-, cs, -, hcb, hcw⟩ := f14
    subst hcw
    clear hG hH
    obtain ⟨w8, rfl⟩ : ∃ q, q = w := ⟨_, rfl⟩
    have HC8 := Lib.hid hcb
    go_wp2_with fail
    refine ret_tyI2 (X := w0.heap.size + 1 + 1) rfl rfl rfl HC8.out rfl ?_
    exact ⟨K8.out, none, 0, by rw [HXF.out]; rfl, by rw [HXF.out]; exact Or.inl ⟨rfl, rfl, rfl⟩⟩
   ·have en0 : (o.n == 0) = false := by simpa using hn0
    obtain ⟨n1, hn1⟩ : ∃ n1, n1 = decide (o.n = 1) := ⟨_, rfl⟩
    have en1 : (o.n == 1) = n1 := by rw [hn1]; exact Bool.eq_iff_iff.2 (by simp)
    have HXF : Hid (x = (.mk 2 false 0 0 [], n1)) := Lib.hid (by rw [HXE.out, hn1, decide_eq_false hn0]; rfl)
    clear hn0 hn1
    go_upto_region 5 with fail
    refine St.wp_region_rn 16 (St.GY 26 5 (fun cs => cs = #[.int .u8 2, .bool false, .int .i64 0, .int .i64 0, .slice none 0 0]) V2.heap.size) (St.kindXn [(3, (fun _ y => y = .bool true), fun _ _ _ _ => True), (14, fun _ y => y = undef, St.HasT 26 5 V2.heap.size (fun cs => cs = #[.int .u8 2, .bool false, .int .i64 0, .int .i64 0, .slice none 0 0]))]) (by kernel_rfl) (by kernel_rfl) St.gy_trans St.gy_refl (St.gy_kbF (KB.refl _ _).drew) (fun _ _ h => h.size) (St.kindXn_mono _ (by intro q hq; simp only [List.mem_cons, List.not_mem_nil, or_false] at hq; rcases hq with rfl | rfl; exact fun _ _ _ _ _ _ h => h; exact St.hasT_gy)) ?_
    simp only [pT, pU, pV, pW]
    refine St.rn_det (by kernel_rfl) rfl (by intro w hG hH; go_simp; first | done | with_reducible rfl) ?_
    simp only [Act.put, pA, pZ, pS]
    refine St.rn_det (by kernel_rfl) rfl (by intro w hG hH; go_simp; first | done | with_reducible rfl) ?_
    simp only [Act.put, pA, pZ, pS]
    refine St.rn_det (by kernel_rfl) rfl (by intro w hG hH; have c0 := hp2 w hG; have c1 := hp3 w hG; go_simp; first | done | with_reducible rfl) ?_
    simp only [Act.put, pA, pZ, pS]
    refine St.rn_plain (by kernel_rfl) rfl ⟨_, rfl⟩ (fun _ _ h => h.size) (by
     intro w hG hH
     refine St.opVal_call (by go_simp; first | done | exact ⟨⟨rfl, rfl⟩, rfl⟩) ?_
     refine (Z.out w).mono ?_
     rintro e w' ⟨rfl, hk⟩
     exact ⟨_, rfl, rfl, St.gy_kbF hk, fun _ => trivial⟩) ?_
    rintro y g3 rfl
    simp only [Act.put, pA, pZ, pS]
    refine St.rn_det (by kernel_rfl) rfl (by intro w hG hH; go_simp; first | done | with_reducible rfl) ?_
    simp only [Act.put, pA, pZ, pS]
    refine St.rn_det (by kernel_rfl) rfl (by intro w hG hH; go_simp; first | done | with_reducible rfl) ?_
    simp only [Act.put, pA, pZ, pS]
    refine St.rn_det (by kernel_rfl) rfl (by intro w hG hH; have c0 := hp1 w hG; go_simp; first | done | with_reducible rfl) ?_
    simp only [Act.put, pA, pZ, pS]
    refine St.rn_det (by kernel_rfl) rfl (by intro w hG hH; go_simp; first | done | with_reducible rfl) ?_
    simp only [Act.put, pA, pZ, pS]
    refine St.rn_det (by kernel_rfl) rfl (by intro w hG hH; go_simp; first | done | with_reducible rfl) ?_
    simp only [Act.put, pA, pZ, pS]
    refine St.rn_det (by kernel_rfl) rfl (by intro w hG hH; go_simp; first | done | with_reducible rfl) ?_
    simp only [Act.put, pA, pZ, pS]
    refine St.rn_det (by kernel_rfl) rfl (by intro w hG hH; have c0 := hp1 w hG; go_simp; first | done | with_reducible rfl) ?_
    simp only [Act.put, pA, pZ, pS]
    refine St.rn_det (by kernel_rfl) rfl (by intro w hG hH; go_simp; first | done | with_reducible rfl) ?_
    simp only [Act.put, pA, pZ, pS]
    refine St.rn_det (by kernel_rfl) rfl (by intro w hG hH; go_simp; first | done | with_reducible rfl) ?_
    simp only [Act.put, pA, pZ, pS]
    refine St.rn_det (by kernel_rfl) rfl (by intro w hG hH; go_simp; first | done | with_reducible rfl) ?_
    simp only [Act.put, pA, pZ, pS]
    refine St.rn_plain (by kernel_rfl) rfl ⟨_, rfl⟩ (fun _ _ h => h.size) (by
     intro w hG hH
     obtain ⟨cs, hz, hc, -⟩ := hG.2 (w0.heap.size + 1 + 1) _ (by omega) rfl HRB.out
     obtain ⟨q0, q1, q2, q3, q4, rfl⟩ := arr5 hz
     have m0 := blk_cell hc 0
     have m1 := blk_cell hc 1
     have m2 := blk_cell hc 2
     have m3 := blk_cell hc 3
     have m4 := blk_cell hc 4
     have n0 := blk_frozen hc 0
     have n1 := blk_frozen hc 1
     have n2 := blk_frozen hc 2
     have n3 := blk_frozen hc 3
     have n4 := blk_frozen hc 4
     simp only [List.getElem?_toArray, List.getElem?_cons_zero, List.getElem?_cons_succ] at m0 m1 m2 m3 m4
     refine St.opVal_storeT (w0 := V2) (w' := set5 w (w0.heap.size + 1 + 1) (.int .u8 2) (.bool false) (.int .i64 0) (.int .i64 0) (.slice none 0 0)) (by omega) hc rfl rfl (set5_kb w _ _ _ _ _ _) (set5_blk hc _ _ _ _ _) rfl ?_
     unfold set5
     go_simp
     first | done | rfl) ?_
    rintro y g14 rfl
    simp only [Act.put, pA, pZ, pS]
    refine St.rn_det (by kernel_rfl) rfl (by intro w hG hH; go_simp; first | done | with_reducible rfl) ?_
    simp only [Act.put, pA, pZ, pS]
    refine St.rn_nil (fun w hG hH => ?_)
    have f14 := hH _ List.mem_cons_self (w0.heap.size + 1 + 1) rfl
    have K8 := Lib.hid (HB.out.1.oldS hG.1 (fun k hk e => by have := e.1; omega))
    obtain ⟨-, cs, -, hcb, hcw⟩ := f14
    subst hcw
    clear hG hH
    obtain ⟨w8, rfl⟩ : ∃ q, q = w := ⟨_, rfl⟩
    have HC8 := Lib.hid hcb
    go_wp2_with fail
    refine ret_tyI2 (X := w0.heap.size + 1 + 1) rfl rfl rfl HC8.out rfl ?_
    exact ⟨K8.out, none, 0, by rw [HXF.out]; rfl, by rw [HXF.out]; exact Or.inl ⟨rfl, rfl, rfl⟩⟩
 have e1 : (k == 1) = false := by simpa using h1
 have e2 : (k == 2) = false := by simpa using h2
 have SP := Lib.hid (grSpot_any S hn sa sc hsc L hll la lc hM o.p pa pc fa fn fc mn nm lv oa on oc par na nn nc ga gn gc wb W (HWB.out.trans HB.out.1) HH.out.1 HH.out.2.1 (HH.out.2.2.kbF HB.out.1))
 unfold askV plV at SP
 have a0 : W.cell? ⟨w0.heap.size, 0, none⟩ = some (.slice sa S.length sc) := blk_cell HB.out.2.1 0
 have a1 : W.cell? ⟨w0.heap.size, 1, none⟩ = some (.slice fa fn fc) := blk_cell HB.out.2.1 1
 have a2 : W.cell? ⟨w0.heap.size, 2, none⟩ = some (.int .i64 mn) := blk_cell HB.out.2.1 2
 have a3 : W.cell? ⟨w0.heap.size, 3, none⟩ = some (.string nm) := blk_cell HB.out.2.1 3
 have a4 : W.cell? ⟨w0.heap.size, 4, none⟩ = some (.int .i64 lv) := blk_cell HB.out.2.1 4
 have a5 : W.cell? ⟨w0.heap.size, 5, none⟩ = some (.slice oa on oc) := blk_cell HB.out.2.1 5
 have a6 : W.cell? ⟨w0.heap.size, 6, none⟩ = some (.int .i64 par) := blk_cell HB.out.2.1 6
 have a7 : W.cell? ⟨w0.heap.size, 7, none⟩ = some (.slice la L.length lc) := blk_cell HB.out.2.1 7
 have a8 : W.cell? ⟨w0.heap.size, 8, none⟩ = some (.slice na nn nc) := blk_cell HB.out.2.1 8
 have a9 : W.cell? ⟨w0.heap.size, 9, none⟩ = some (.slice ga gn gc) := blk_cell HB.out.2.1 9
 go_wp2_with fail
 refine SP.out.mono ?_
 rintro e w1 ⟨k1, hE⟩
 obtain ⟨t, ta, tc, mo, sok, rfl, hF⟩ : ∃ t ta tc mo sok, e = .returned (spV t ta tc mo sok) ∧ ((spotF S L o.p = none ∧ t = ty0 ∧ ta = none ∧ tc = 0 ∧ mo = 0 ∧ sok = false) ∨ (∃ hs, spotF S L o.p = some (t, hs) ∧ mo = mostI hs ∧ sok = decide (o.p.path.length ≤ 8) ∧ OnWay S wb t ta tc)) := by
  cases hsf : spotF S L o.p with
  | none => rw [hsf] at hE; exact ⟨ty0, none, 0, 0, false, hE, Or.inl ⟨rfl, rfl, rfl, rfl, rfl, rfl⟩⟩
  | some y =>
   rw [hsf] at hE
   obtain ⟨ta, tc, he, hon⟩ := hE
   exact ⟨y.1, ta, tc, _, _, he, Or.inr ⟨y.2, rfl, rfl, rfl, hon⟩⟩
 have HF := Lib.hid hF
 have K1 := Lib.hid k1
 clear hE hF SP
 have HR1 := Lib.hid (k1.heap (fun x => x) HB.out.2.2.2.1)
 have hz1 := k1.size
 have hzX : w0.heap.size + 1 + 1 < W.heap.size := heap_lt HB.out.2.2.2.1
 have p0 := k1.cell (p := ⟨w0.heap.size + 1, 0, none⟩) (fun x => x) p0
 have p1 := k1.cell (p := ⟨w0.heap.size + 1, 1, none⟩) (fun x => x) p1
 unfold spV
 clear k1 a0 a1 a2 a3 a4 a5 a6 a7 a8 a9 d0 d1 d2 d3 d4 f0 f1 f2 f3 f4 p2 p3
 go_upto_region 7 with fail
 obtain ⟨W2, hW2⟩ : ∃ W2, W2 = w1.alloc (.cells #[.int .u8 t.k, .bool t.m, .int .i64 t.r, .int .i64 t.s, .slice ta t.of.length tc, .int .i64 mo, .bool sok] 201) := ⟨_, rfl⟩
 obtain ⟨Y, hY⟩ : ∃ Y, Y = w1.heap.size := ⟨_, rfl⟩
 have k2 := (KB.refl F0 w1).alloc (.cells #[.int .u8 t.k, .bool t.m, .int .i64 t.r, .int .i64 t.s, .slice ta t.of.length tc, .int .i64 mo, .bool sok] 201)
 have b2 := alloc_new w1 (.cells #[.int .u8 t.k, .bool t.m, .int .i64 t.r, .int .i64 t.s, .slice ta t.of.length tc, .int .i64 mo, .bool sok] 201)
 rw [← hW2] at k2 b2
 rw [← hW2, ← hY]
 rw [← hY] at b2
 have K2 := Lib.hid ((HB.out.1.trans K1.out).trans k2)
 have KW := Lib.hid (K1.out.trans k2)
 have HRB := Lib.hid (k2.heap (fun x => x) HR1.out)
 have p0 := k2.cell (p := ⟨w0.heap.size + 1, 0, none⟩) (fun x => x) p0
 have p1 := k2.cell (p := ⟨w0.heap.size + 1, 1, none⟩) (fun x => x) p1
 have y0 : W2.cell? ⟨Y, 0, none⟩ = some (.int .u8 t.k) := blk_cell b2 0
 have y1 : W2.cell? ⟨Y, 1, none⟩ = some (.bool t.m) := blk_cell b2 1
 have y2 : W2.cell? ⟨Y, 2, none⟩ = some (.int .i64 t.r) := blk_cell b2 2
 have y3 : W2.cell? ⟨Y, 3, none⟩ = some (.int .i64 t.s) := blk_cell b2 3
 have y4 : W2.cell? ⟨Y, 4, none⟩ = some (.slice ta t.of.length tc) := blk_cell b2 4
 have y5 : W2.cell? ⟨Y, 5, none⟩ = some (.int .i64 mo) := blk_cell b2 5
 have y6 : W2.cell? ⟨Y, 6, none⟩ = some (.bool sok) := blk_cell b2 6
 have HY2 := Lib.hid b2
 have HW2 := Lib.hid hW2
 have HY := Lib.hid hY
 clear k2 b2 hW2 hY
 obtain ⟨dn, hdn⟩ : ∃ dn, dn = decide (o.n = 0) := ⟨_, rfl⟩
 have en : (o.n == 0) = dn := by rw [hdn]; exact Bool.eq_iff_iff.2 (by simp)
 have HX3 : Hid (k = 3 → x = (t, (sok && dn) && copB t)) := Lib.hid (by
  intro h3
  rw [HX.out, opF, if_neg (by rw [← HKK.out]; exact h1), if_neg (by rw [← HKK.out]; exact h2), if_pos (by rw [← HKK.out]; exact h3)]
  rcases HF.out with ⟨h, rfl, -, -, -, rfl⟩ | ⟨hs, h, rfl, rfl, -⟩
  ·rw [h]; rfl
  ·rw [h, hdn]; simp only [Bool.and_assoc])
 have HX4 : Hid (k = 4 → x = (t, (sok && dn) && (!copB t && decide (mo < 2)))) := Lib.hid (by
  intro h4
  rw [HX.out, opF, if_neg (by rw [← HKK.out]; exact h1), if_neg (by rw [← HKK.out]; exact h2), if_neg (by rw [← HKK.out]; omega), if_pos (by rw [← HKK.out]; exact h4)]
  rcases HF.out with ⟨h, rfl, -, -, rfl, rfl⟩ | ⟨hs, h, rfl, rfl, -⟩
  ·rw [h]; rfl
  ·rw [h, hdn]; simp only [Bool.and_assoc])
 have HX5 : Hid (k ≠ 3 → k ≠ 4 → x = (ty0, false)) := Lib.hid (by
  intro h3 h4
  rw [HX.out, opF, if_neg (by rw [← HKK.out]; exact h1), if_neg (by rw [← HKK.out]; exact h2), if_neg (by rw [← HKK.out]; exact h3), if_neg (by rw [← HKK.out]; exact h4)])
 have HON : Hid ((ta = none ∧ tc = 0 ∧ t.of = []) ∨ OnWay S wb t ta tc) := Lib.hid (by
  rcases HF.out with ⟨h, rfl, rfl, rfl, -, -⟩ | ⟨hs, h, -, -, hon⟩
  ·exact Or.inl ⟨rfl, rfl, rfl⟩
  ·exact Or.inr hon)
 have CP : Hid ((sok && dn) = true → ∀ V, KB F0 w0 V → Calls Tryz.prog 157 #[tyV t ta tc] V fun e w' => e = .returned (.bool (copB t)) ∧ KB F0 V w') := Lib.hid (by
  intro hb V hV
  refine tyCopies_any t ta tc V ?_
  rcases HF.out with ⟨h, -, -, -, -, rfl⟩ | ⟨hs, h, -, -, hon⟩
  ·cases hb
  ·exact ((hon.look hM.1).2 49).kbF (HWB.out.trans hV))
 obtain ⟨c, hc⟩ : ∃ c, c = copB t := ⟨_, rfl⟩
 obtain ⟨q, hq⟩ : ∃ q, q = decide (mo < 2) := ⟨_, rfl⟩
 have eq2 := hq.symm
 rw [← hc] at HX3 HX4 CP
 rw [← hq] at HX4
 unfold tyV at CP
 have r0 := blk_frozen HRB.out 0
 have r1 := blk_frozen HRB.out 1
 have r2 := blk_frozen HRB.out 2
 have r3 := blk_frozen HRB.out 3
 have r4 := blk_frozen HRB.out 4
 have z0 : W2.cell? ⟨w0.heap.size + 1 + 1, 0, none⟩ = some (.int .u8 0) := blk_cell HRB.out 0
 have z1 : W2.cell? ⟨w0.heap.size + 1 + 1, 1, none⟩ = some (.bool false) := blk_cell HRB.out 1
 have z2 : W2.cell? ⟨w0.heap.size + 1 + 1, 2, none⟩ = some (.int .i64 0) := blk_cell HRB.out 2
 have z3 : W2.cell? ⟨w0.heap.size + 1 + 1, 3, none⟩ = some (.int .i64 0) := blk_cell HRB.out 3
 have z4 : W2.cell? ⟨w0.heap.size + 1 + 1, 4, none⟩ = some (.slice none 0 0) := blk_cell HRB.out 4
 have hy0 : ∀ w, St.GY 26 5 (fun cs => cs = #[.int .u8 t.k, .bool t.m, .int .i64 t.r, .int .i64 t.s, .slice ta t.of.length tc]) V2.heap.size W2 w → w.cell? ⟨Y, 0, none⟩ = some (.int .u8 t.k) := fun w hG => KB.cell (p := ⟨Y, 0, none⟩) hG.1 (fun hx => by obtain ⟨cs, h⟩ := hx.2; have h9 := HY2.out.symm.trans h; simp at h9) y0
 have hy1 : ∀ w, St.GY 26 5 (fun cs => cs = #[.int .u8 t.k, .bool t.m, .int .i64 t.r, .int .i64 t.s, .slice ta t.of.length tc]) V2.heap.size W2 w → w.cell? ⟨Y, 1, none⟩ = some (.bool t.m) := fun w hG => KB.cell (p := ⟨Y, 1, none⟩) hG.1 (fun hx => by obtain ⟨cs, h⟩ := hx.2; have h9 := HY2.out.symm.trans h; simp at h9) y1
 have hy2 : ∀ w, St.GY 26 5 (fun cs => cs = #[.int .u8 t.k, .bool t.m, .int .i64 t.r, .int .i64 t.s, .slice ta t.of.length tc]) V2.heap.size W2 w → w.cell? ⟨Y, 2, none⟩ = some (.int .i64 t.r) := fun w hG => KB.cell (p := ⟨Y, 2, none⟩) hG.1 (fun hx => by obtain ⟨cs, h⟩ := hx.2; have h9 := HY2.out.symm.trans h; simp at h9) y2
 have hy3 : ∀ w, St.GY 26 5 (fun cs => cs = #[.int .u8 t.k, .bool t.m, .int .i64 t.r, .int .i64 t.s, .slice ta t.of.length tc]) V2.heap.size W2 w → w.cell? ⟨Y, 3, none⟩ = some (.int .i64 t.s) := fun w hG => KB.cell (p := ⟨Y, 3, none⟩) hG.1 (fun hx => by obtain ⟨cs, h⟩ := hx.2; have h9 := HY2.out.symm.trans h; simp at h9) y3
 have hy4 : ∀ w, St.GY 26 5 (fun cs => cs = #[.int .u8 t.k, .bool t.m, .int .i64 t.r, .int .i64 t.s, .slice ta t.of.length tc]) V2.heap.size W2 w → w.cell? ⟨Y, 4, none⟩ = some (.slice ta t.of.length tc) := fun w hG => KB.cell (p := ⟨Y, 4, none⟩) hG.1 (fun hx => by obtain ⟨cs, h⟩ := hx.2; have h9 := HY2.out.symm.trans h; simp at h9) y4
 have hy5 : ∀ w, St.GY 26 5 (fun cs => cs = #[.int .u8 t.k, .bool t.m, .int .i64 t.r, .int .i64 t.s, .slice ta t.of.length tc]) V2.heap.size W2 w → w.cell? ⟨Y, 5, none⟩ = some (.int .i64 mo) := fun w hG => KB.cell (p := ⟨Y, 5, none⟩) hG.1 (fun hx => by obtain ⟨cs, h⟩ := hx.2; have h9 := HY2.out.symm.trans h; simp at h9) y5
 clear hdn hc hq
 by_cases h3 : k = 3
 ·subst h3
  cases sok with
  | false =>
   have HXF : Hid (x = (t, false)) := Lib.hid (by rw [HX3.out rfl]; rfl)
   go_upto_region 10 with fail
   refine St.wp_region_rn 10 (St.GY 26 5 (fun cs => cs = #[.int .u8 t.k, .bool t.m, .int .i64 t.r, .int .i64 t.s, .slice ta t.of.length tc]) V2.heap.size) (St.kindXn [(8, fun _ y => y = undef, St.HasT 26 5 V2.heap.size (fun cs => cs = #[.int .u8 t.k, .bool t.m, .int .i64 t.r, .int .i64 t.s, .slice ta t.of.length tc]))]) (by kernel_rfl) (by kernel_rfl) St.gy_trans St.gy_refl (St.gy_kbF (KB.refl _ _).drew) (fun _ _ h => h.size) (St.kindXn_mono _ (by intro q hq; simp only [List.mem_cons, List.not_mem_nil, or_false] at hq; rcases hq with rfl; exact St.hasT_gy)) ?_
   simp only [pT, pU, pV, pW]
   refine St.rn_det (by kernel_rfl) rfl (by intro w hG hH; go_simp; first | done | with_reducible rfl) ?_
   simp only [Act.put, pA, pZ, pS]
   refine St.rn_det (by kernel_rfl) rfl (by intro w hG hH; have c0 := hy0 w hG; have c1 := hy1 w hG; have c2 := hy2 w hG; have c3 := hy3 w hG; have c4 := hy4 w hG; go_simp; first | done | with_reducible rfl) ?_
   simp only [Act.put, pA, pZ, pS]
   refine St.rn_det (by kernel_rfl) rfl (by intro w hG hH; go_simp; first | done | with_reducible rfl) ?_
   simp only [Act.put, pA, pZ, pS]
   refine St.rn_det (by kernel_rfl) rfl (by intro w hG hH; go_simp; first | done | with_reducible rfl) ?_
   simp only [Act.put, pA, pZ, pS]
   refine St.rn_skip (by kernel_rfl) ?_
   simp only [Act.put, pA, pZ, pS]
   refine St.rn_skip (by kernel_rfl) ?_
   simp only [Act.put, pA, pZ, pS]
   refine St.rn_skip (by kernel_rfl) ?_
   simp only [Act.put, pA, pZ, pS]
   refine St.rn_det (by kernel_rfl) rfl (by intro w hG hH; go_simp; first | done | with_reducible rfl) ?_
   simp only [Act.put, pA, pZ, pS]
   refine St.rn_plain (by kernel_rfl) rfl ⟨_, rfl⟩ (fun _ _ h => h.size) (by
    intro w hG hH
    obtain ⟨cs, hz, hc, -⟩ := hG.2 (w0.heap.size + 1 + 1) _ (by omega) rfl HRB.out
    obtain ⟨q0, q1, q2, q3, q4, rfl⟩ := arr5 hz
    have m0 := blk_cell hc 0
    have m1 := blk_cell hc 1
    have m2 := blk_cell hc 2
    have m3 := blk_cell hc 3
    have m4 := blk_cell hc 4
    have n0 := blk_frozen hc 0
    have n1 := blk_frozen hc 1
    have n2 := blk_frozen hc 2
    have n3 := blk_frozen hc 3
    have n4 := blk_frozen hc 4
    simp only [List.getElem?_toArray, List.getElem?_cons_zero, List.getElem?_cons_succ] at m0 m1 m2 m3 m4
    refine St.opVal_storeT (w0 := V2) (w' := set5 w (w0.heap.size + 1 + 1) (.int .u8 t.k) (.bool t.m) (.int .i64 t.r) (.int .i64 t.s) (.slice ta t.of.length tc)) (by omega) hc rfl rfl (set5_kb w _ _ _ _ _ _) (set5_blk hc _ _ _ _ _) rfl ?_
    unfold set5
    go_simp
    first | done | rfl) ?_
   rintro y g8 rfl
   simp only [Act.put, pA, pZ, pS]
   refine St.rn_det (by kernel_rfl) rfl (by intro w hG hH; go_simp; first | done | with_reducible rfl) ?_
   simp only [Act.put, pA, pZ, pS]
   refine St.rn_nil (fun w hG hH => ?_)
   have f14 := hH _ List.mem_cons_self (w0.heap.size + 1 + 1) rfl
   have K8 := Lib.hid (K2.out.oldS hG.1 (fun k hk e => by have := e.1; omega))
   obtain ⟨-, cs, -, hcb, hcw⟩ := f14
   subst hcw
   clear hG hH
   obtain ⟨w8, rfl⟩ : ∃ q, q = w := ⟨_, rfl⟩
   have HC8 := Lib.hid hcb
   go_wp2_with fail
   refine ret_tyI2 (X := w0.heap.size + 1 + 1) rfl rfl rfl HC8.out rfl ?_
   exact ⟨K8.out, ta, tc, by rw [HXF.out]; rfl, by rw [HXF.out]; exact HON.out⟩
  | true =>
   cases dn with
   | false =>
    have HXF : Hid (x = (t, false)) := Lib.hid (by rw [HX3.out rfl]; rfl)
    go_upto_region 10 with fail
    refine St.wp_region_rn 10 (St.GY 26 5 (fun cs => cs = #[.int .u8 t.k, .bool t.m, .int .i64 t.r, .int .i64 t.s, .slice ta t.of.length tc]) V2.heap.size) (St.kindXn [(8, fun _ y => y = undef, St.HasT 26 5 V2.heap.size (fun cs => cs = #[.int .u8 t.k, .bool t.m, .int .i64 t.r, .int .i64 t.s, .slice ta t.of.length tc]))]) (by kernel_rfl) (by kernel_rfl) St.gy_trans St.gy_refl (St.gy_kbF (KB.refl _ _).drew) (fun _ _ h => h.size) (St.kindXn_mono _ (by intro q hq; simp only [List.mem_cons, List.not_mem_nil, or_false] at hq; rcases hq with rfl; exact St.hasT_gy)) ?_
    simp only [pT, pU, pV, pW]
    refine St.rn_det (by kernel_rfl) rfl (by intro w hG hH; go_simp; first | done | with_reducible rfl) ?_
    simp only [Act.put, pA, pZ, pS]
    refine St.rn_det (by kernel_rfl) rfl (by intro w hG hH; have c0 := hy0 w hG; have c1 := hy1 w hG; have c2 := hy2 w hG; have c3 := hy3 w hG; have c4 := hy4 w hG; go_simp; first | done | with_reducible rfl) ?_
    simp only [Act.put, pA, pZ, pS]
    refine St.rn_det (by kernel_rfl) rfl (by intro w hG hH; go_simp; first | done | with_reducible rfl) ?_
    simp only [Act.put, pA, pZ, pS]
    refine St.rn_det (by kernel_rfl) rfl (by intro w hG hH; go_simp; first | done | with_reducible rfl) ?_
    simp only [Act.put, pA, pZ, pS]
    refine St.rn_skip (by kernel_rfl) ?_
    simp only [Act.put, pA, pZ, pS]
    refine St.rn_skip (by kernel_rfl) ?_
    simp only [Act.put, pA, pZ, pS]
    refine St.rn_skip (by kernel_rfl) ?_
    simp only [Act.put, pA, pZ, pS]
    refine St.rn_det (by kernel_rfl) rfl (by intro w hG hH; go_simp; first | done | with_reducible rfl) ?_
    simp only [Act.put, pA, pZ, pS]
    refine St.rn_plain (by kernel_rfl) rfl ⟨_, rfl⟩ (fun _ _ h => h.size) (by
     intro w hG hH
     obtain ⟨cs, hz, hc, -⟩ := hG.2 (w0.heap.size + 1 + 1) _ (by omega) rfl HRB.out
     obtain ⟨q0, q1, q2, q3, q4, rfl⟩ := arr5 hz
     have m0 := blk_cell hc 0
     have m1 := blk_cell hc 1
     have m2 := blk_cell hc 2
     have m3 := blk_cell hc 3
     have m4 := blk_cell hc 4
     have n0 := blk_frozen hc 0
     have n1 := blk_frozen hc 1
     have n2 := blk_frozen hc 2
     have n3 := blk_frozen hc 3
     have n4 := blk_frozen hc 4
     simp only [List.getElem?_toArray, List.getElem?_cons_zero, List.getElem?_cons_succ] at m0 m1 m2 m3 m4
     refine St.opVal_storeT (w0 := V2) (w' := set5 w (w0.heap.size + 1 + 1) (.int .u8 t.k) (.bool t.m) (.int .i64 t.r) (.int .i64 t.s) (.slice ta t.of.length tc)) (by omega) hc rfl rfl (set5_kb w _ _ _ _ _ _) (set5_blk hc _ _ _ _ _) rfl ?_
     unfold set5
     go_simp
     first | done | rfl) ?_
    rintro y g8 rfl
    simp only [Act.put, pA, pZ, pS]
    refine St.rn_det (by kernel_rfl) rfl (by intro w hG hH; go_simp; first | done | with_reducible rfl) ?_
    simp only [Act.put, pA, pZ, pS]
    refine St.rn_nil (fun w hG hH => ?_)
    have f14 := hH _ List.mem_cons_self (w0.heap.size + 1 + 1) rfl
    have K8 := Lib.hid (K2.out.oldS hG.1 (fun k hk e => by have := e.1; omega))
    obtain ⟨-, cs, -, hcb, hcw⟩ := f14
    subst hcw
    clear hG hH
    obtain ⟨w8, rfl⟩ : ∃ q, q = w := ⟨_, rfl⟩
    have HC8 := Lib.hid hcb
    go_wp2_with fail
    refine ret_tyI2 (X := w0.heap.size + 1 + 1) rfl rfl rfl HC8.out rfl ?_
    exact ⟨K8.out, ta, tc, by rw [HXF.out]; rfl, by rw [HXF.out]; exact HON.out⟩
   | true =>
    have HXF : Hid (x = (t, c)) := Lib.hid (by rw [HX3.out rfl]; rfl)
    go_upto_region 10 with fail
    refine St.wp_region_rn 10 (St.GY 26 5 (fun cs => cs = #[.int .u8 t.k, .bool t.m, .int .i64 t.r, .int .i64 t.s, .slice ta t.of.length tc]) V2.heap.size) (St.kindXn [(6, (fun _ y => y = .bool c), fun _ _ _ _ => True), (8, fun _ y => y = undef, St.HasT 26 5 V2.heap.size (fun cs => cs = #[.int .u8 t.k, .bool t.m, .int .i64 t.r, .int .i64 t.s, .slice ta t.of.length tc]))]) (by kernel_rfl) (by kernel_rfl) St.gy_trans St.gy_refl (St.gy_kbF (KB.refl _ _).drew) (fun _ _ h => h.size) (St.kindXn_mono _ (by intro q hq; simp only [List.mem_cons, List.not_mem_nil, or_false] at hq; rcases hq with rfl | rfl; exact fun _ _ _ _ _ _ h => h; exact St.hasT_gy)) ?_
    simp only [pT, pU, pV, pW]
    refine St.rn_det (by kernel_rfl) rfl (by intro w hG hH; go_simp; first | done | with_reducible rfl) ?_
    simp only [Act.put, pA, pZ, pS]
    refine St.rn_det (by kernel_rfl) rfl (by intro w hG hH; have c0 := hy0 w hG; have c1 := hy1 w hG; have c2 := hy2 w hG; have c3 := hy3 w hG; have c4 := hy4 w hG; go_simp; first | done | with_reducible rfl) ?_
    simp only [Act.put, pA, pZ, pS]
    refine St.rn_det (by kernel_rfl) rfl (by intro w hG hH; go_simp; first | done | with_reducible rfl) ?_
    simp only [Act.put, pA, pZ, pS]
    refine St.rn_det (by kernel_rfl) rfl (by intro w hG hH; go_simp; first | done | with_reducible rfl) ?_
    simp only [Act.put, pA, pZ, pS]
    refine St.rn_det (by kernel_rfl) rfl (by intro w hG hH; go_simp; first | done | with_reducible rfl) ?_
    simp only [Act.put, pA, pZ, pS]
    refine St.rn_det (by kernel_rfl) rfl (by intro w hG hH; have c0 := hy0 w hG; have c1 := hy1 w hG; have c2 := hy2 w hG; have c3 := hy3 w hG; have c4 := hy4 w hG; go_simp; first | done | with_reducible rfl) ?_
    simp only [Act.put, pA, pZ, pS]
    refine St.rn_plain (by kernel_rfl) rfl ⟨_, rfl⟩ (fun _ _ h => h.size) (by
     intro w hG hH
     refine St.opVal_call (by go_simp; first | done | exact ⟨⟨rfl, rfl⟩, rfl⟩) ?_
     refine (CP.out rfl w (K2.out.oldS hG.1 (fun k hk e => by have := e.1; omega))).mono ?_
     rintro e w' ⟨rfl, hk⟩
     exact ⟨_, rfl, rfl, St.gy_kbF hk, fun _ => trivial⟩) ?_
    rintro y g6 rfl
    simp only [Act.put, pA, pZ, pS]
    refine St.rn_det (by kernel_rfl) rfl (by intro w hG hH; go_simp; first | done | with_reducible rfl) ?_
    simp only [Act.put, pA, pZ, pS]
    refine St.rn_plain (by kernel_rfl) rfl ⟨_, rfl⟩ (fun _ _ h => h.size) (by
     intro w hG hH
     obtain ⟨cs, hz, hc, -⟩ := hG.2 (w0.heap.size + 1 + 1) _ (by omega) rfl HRB.out
     obtain ⟨q0, q1, q2, q3, q4, rfl⟩ := arr5 hz
     have m0 := blk_cell hc 0
     have m1 := blk_cell hc 1
     have m2 := blk_cell hc 2
     have m3 := blk_cell hc 3
     have m4 := blk_cell hc 4
     have n0 := blk_frozen hc 0
     have n1 := blk_frozen hc 1
     have n2 := blk_frozen hc 2
     have n3 := blk_frozen hc 3
     have n4 := blk_frozen hc 4
     simp only [List.getElem?_toArray, List.getElem?_cons_zero, List.getElem?_cons_succ] at m0 m1 m2 m3 m4
     refine St.opVal_storeT (w0 := V2) (w' := set5 w (w0.heap.size + 1 + 1) (.int .u8 t.k) (.bool t.m) (.int .i64 t.r) (.int .i64 t.s) (.slice ta t.of.length tc)) (by omega) hc rfl rfl (set5_kb w _ _ _ _ _ _) (set5_blk hc _ _ _ _ _) rfl ?_
     unfold set5
     go_simp
     first | done | rfl) ?_
    rintro y g8 rfl
    simp only [Act.put, pA, pZ, pS]
    refine St.rn_det (by kernel_rfl) rfl (by intro w hG hH; go_simp; first | done | with_reducible rfl) ?_
    simp only [Act.put, pA, pZ, pS]
    refine St.rn_nil (fun w hG hH => ?_)
    have f14 := hH _ List.mem_cons_self (w0.heap.size + 1 + 1) rfl
    have K8 := Lib.hid (K2.out.oldS hG.1 (fun k hk e => by have := e.1; omega))
    obtain ⟨-, cs, -, hcb, hcw⟩ := f14
    subst hcw
    clear hG hH
    obtain ⟨w8, rfl⟩ : ∃ q, q = w := ⟨_, rfl⟩
    have HC8 := Lib.hid hcb
    go_wp2_with fail
    refine ret_tyI2 (X := w0.heap.size + 1 + 1) rfl rfl rfl HC8.out rfl ?_
    exact ⟨K8.out, ta, tc, by rw [HXF.out]; rfl, by rw [HXF.out]; exact HON.out⟩
 by_cases h4 : k = 4
 ·subst h4
  cases sok with
  | false =>
   have HXF : Hid (x = (t, false)) := Lib.hid (by rw [HX4.out rfl]; rfl)
   go_upto_region 12 with fail
   refine St.wp_region_rn 16 (St.GY 26 5 (fun cs => cs = #[.int .u8 t.k, .bool t.m, .int .i64 t.r, .int .i64 t.s, .slice ta t.of.length tc]) V2.heap.size) (St.kindXn [(14, fun _ y => y = undef, St.HasT 26 5 V2.heap.size (fun cs => cs = #[.int .u8 t.k, .bool t.m, .int .i64 t.r, .int .i64 t.s, .slice ta t.of.length tc]))]) (by kernel_rfl) (by kernel_rfl) St.gy_trans St.gy_refl (St.gy_kbF (KB.refl _ _).drew) (fun _ _ h => h.size) (St.kindXn_mono _ (by intro q hq; simp only [List.mem_cons, List.not_mem_nil, or_false] at hq; rcases hq with rfl; exact St.hasT_gy)) ?_
   simp only [pT, pU, pV, pW]
   refine St.rn_det (by kernel_rfl) rfl (by intro w hG hH; go_simp; first | done | with_reducible rfl) ?_
   simp only [Act.put, pA, pZ, pS]
   refine St.rn_det (by kernel_rfl) rfl (by intro w hG hH; have c0 := hy0 w hG; have c1 := hy1 w hG; have c2 := hy2 w hG; have c3 := hy3 w hG; have c4 := hy4 w hG; go_simp; first | done | with_reducible rfl) ?_
   simp only [Act.put, pA, pZ, pS]
   refine St.rn_det (by kernel_rfl) rfl (by intro w hG hH; go_simp; first | done | with_reducible rfl) ?_
   simp only [Act.put, pA, pZ, pS]
   refine St.rn_det (by kernel_rfl) rfl (by intro w hG hH; go_simp; first | done | with_reducible rfl) ?_
   simp only [Act.put, pA, pZ, pS]
   refine St.rn_skip (by kernel_rfl) ?_
   simp only [Act.put, pA, pZ, pS]
   refine St.rn_skip (by kernel_rfl) ?_
   simp only [Act.put, pA, pZ, pS]
   refine St.rn_skip (by kernel_rfl) ?_
   simp only [Act.put, pA, pZ, pS]
   refine St.rn_skip (by kernel_rfl) ?_
   simp only [Act.put, pA, pZ, pS]
   refine St.rn_det (by kernel_rfl) rfl (by intro w hG hH; go_simp; first | done | with_reducible rfl) ?_
   simp only [Act.put, pA, pZ, pS]
   refine St.rn_det (by kernel_rfl) rfl (by intro w hG hH; go_simp; first | done | with_reducible rfl) ?_
   simp only [Act.put, pA, pZ, pS]
   refine St.rn_skip (by kernel_rfl) ?_
   simp only [Act.put, pA, pZ, pS]
   refine St.rn_skip (by kernel_rfl) ?_
   simp only [Act.put, pA, pZ, pS]
   refine St.rn_skip (by kernel_rfl) ?_
   simp only [Act.put, pA, pZ, pS]
   refine St.rn_det (by kernel_rfl) rfl (by intro w hG hH; go_simp; first | done | with_reducible rfl) ?_
   simp only [Act.put, pA, pZ, pS]
   refine St.rn_plain (by kernel_rfl) rfl ⟨_, rfl⟩ (fun _ _ h => h.size) (by
    intro w hG hH
    obtain ⟨cs, hz, hc, -⟩ := hG.2 (w0.heap.size + 1 + 1) _ (by omega) rfl HRB.out
    obtain ⟨q0, q1, q2, q3, q4, rfl⟩ := arr5 hz
    have m0 := blk_cell hc 0
    have m1 := blk_cell hc 1
    have m2 := blk_cell hc 2
    have m3 := blk_cell hc 3
    have m4 := blk_cell hc 4
    have n0 := blk_frozen hc 0
    have n1 := blk_frozen hc 1
    have n2 := blk_frozen hc 2
    have n3 := blk_frozen hc 3
    have n4 := blk_frozen hc 4
    simp only [List.getElem?_toArray, List.getElem?_cons_zero, List.getElem?_cons_succ] at m0 m1 m2 m3 m4
    refine St.opVal_storeT (w0 := V2) (w' := set5 w (w0.heap.size + 1 + 1) (.int .u8 t.k) (.bool t.m) (.int .i64 t.r) (.int .i64 t.s) (.slice ta t.of.length tc)) (by omega) hc rfl rfl (set5_kb w _ _ _ _ _ _) (set5_blk hc _ _ _ _ _) rfl ?_
    unfold set5
    go_simp
    first | done | rfl) ?_
   rintro y g14 rfl
   simp only [Act.put, pA, pZ, pS]
   refine St.rn_det (by kernel_rfl) rfl (by intro w hG hH; go_simp; first | done | with_reducible rfl) ?_
   simp only [Act.put, pA, pZ, pS]
   refine St.rn_nil (fun w hG hH => ?_)
   have f14 := hH _ List.mem_cons_self (w0.heap.size + 1 + 1) rfl
   have K8 := Lib.hid (K2.out.oldS hG.1 (fun k hk e => by have := e.1; omega))
   obtain ⟨-, cs, -, hcb, hcw⟩ := f14
   subst hcw
   clear hG hH
   obtain ⟨w8, rfl⟩ : ∃ q, q = w := ⟨_, rfl⟩
   have HC8 := Lib.hid hcb
   go_wp2_with fail
   refine ret_tyI2 (X := w0.heap.size + 1 + 1) rfl rfl rfl HC8.out rfl ?_
   exact ⟨K8.out, ta, tc, by rw [HXF.out]; rfl, by rw [HXF.out]; exact HON.out⟩
  | true =>
   cases dn with
   | false =>
    have HXF : Hid (x = (t, false)) := Lib.hid (by rw [HX4.out rfl]; rfl)
    go_upto_region 12 with fail
    refine St.wp_region_rn 16 (St.GY 26 5 (fun cs => cs = #[.int .u8 t.k, .bool t.m, .int .i64 t.r, .int .i64 t.s, .slice ta t.of.length tc]) V2.heap.size) (St.kindXn [(14, fun _ y => y = undef, St.HasT 26 5 V2.heap.size (fun cs => cs = #[.int .u8 t.k, .bool t.m, .int .i64 t.r, .int .i64 t.s, .slice ta t.of.length tc]))]) (by kernel_rfl) (by kernel_rfl) St.gy_trans St.gy_refl (St.gy_kbF (KB.refl _ _).drew) (fun _ _ h => h.size) (St.kindXn_mono _ (by intro q hq; simp only [List.mem_cons, List.not_mem_nil, or_false] at hq; rcases hq with rfl; exact St.hasT_gy)) ?_
    simp only [pT, pU, pV, pW]
    refine St.rn_det (by kernel_rfl) rfl (by intro w hG hH; go_simp; first | done | with_reducible rfl) ?_
    simp only [Act.put, pA, pZ, pS]
    refine St.rn_det (by kernel_rfl) rfl (by intro w hG hH; have c0 := hy0 w hG; have c1 := hy1 w hG; have c2 := hy2 w hG; have c3 := hy3 w hG; have c4 := hy4 w hG; go_simp; first | done | with_reducible rfl) ?_
    simp only [Act.put, pA, pZ, pS]
    refine St.rn_det (by kernel_rfl) rfl (by intro w hG hH; go_simp; first | done | with_reducible rfl) ?_
    simp only [Act.put, pA, pZ, pS]
    refine St.rn_det (by kernel_rfl) rfl (by intro w hG hH; go_simp; first | done | with_reducible rfl) ?_
    simp only [Act.put, pA, pZ, pS]
    refine St.rn_skip (by kernel_rfl) ?_
    simp only [Act.put, pA, pZ, pS]
    refine St.rn_skip (by kernel_rfl) ?_
    simp only [Act.put, pA, pZ, pS]
    refine St.rn_skip (by kernel_rfl) ?_
    simp only [Act.put, pA, pZ, pS]
    refine St.rn_skip (by kernel_rfl) ?_
    simp only [Act.put, pA, pZ, pS]
    refine St.rn_det (by kernel_rfl) rfl (by intro w hG hH; go_simp; first | done | with_reducible rfl) ?_
    simp only [Act.put, pA, pZ, pS]
    refine St.rn_det (by kernel_rfl) rfl (by intro w hG hH; go_simp; first | done | with_reducible rfl) ?_
    simp only [Act.put, pA, pZ, pS]
    refine St.rn_skip (by kernel_rfl) ?_
    simp only [Act.put, pA, pZ, pS]
    refine St.rn_skip (by kernel_rfl) ?_
    simp only [Act.put, pA, pZ, pS]
    refine St.rn_skip (by kernel_rfl) ?_
    simp only [Act.put, pA, pZ, pS]
    refine St.rn_det (by kernel_rfl) rfl (by intro w hG hH; go_simp; first | done | with_reducible rfl) ?_
    simp only [Act.put, pA, pZ, pS]
    refine St.rn_plain (by kernel_rfl) rfl ⟨_, rfl⟩ (fun _ _ h => h.size) (by
     intro w hG hH
     obtain ⟨cs, hz, hc, -⟩ := hG.2 (w0.heap.size + 1 + 1) _ (by omega) rfl HRB.out
     obtain ⟨q0, q1, q2, q3, q4, rfl⟩ := arr5 hz
     have m0 := blk_cell hc 0
     have m1 := blk_cell hc 1
     have m2 := blk_cell hc 2
     have m3 := blk_cell hc 3
     have m4 := blk_cell hc 4
     have n0 := blk_frozen hc 0
     have n1 := blk_frozen hc 1
     have n2 := blk_frozen hc 2
     have n3 := blk_frozen hc 3
     have n4 := blk_frozen hc 4
     simp only [List.getElem?_toArray, List.getElem?_cons_zero, List.getElem?_cons_succ] at m0 m1 m2 m3 m4
     refine St.opVal_storeT (w0 := V2) (w' := set5 w (w0.heap.size + 1 + 1) (.int .u8 t.k) (.bool t.m) (.int .i64 t.r) (.int .i64 t.s) (.slice ta t.of.length tc)) (by omega) hc rfl rfl (set5_kb w _ _ _ _ _ _) (set5_blk hc _ _ _ _ _) rfl ?_
     unfold set5
     go_simp
     first | done | rfl) ?_
    rintro y g14 rfl
    simp only [Act.put, pA, pZ, pS]
    refine St.rn_det (by kernel_rfl) rfl (by intro w hG hH; go_simp; first | done | with_reducible rfl) ?_
    simp only [Act.put, pA, pZ, pS]
    refine St.rn_nil (fun w hG hH => ?_)
    have f14 := hH _ List.mem_cons_self (w0.heap.size + 1 + 1) rfl
    have K8 := Lib.hid (K2.out.oldS hG.1 (fun k hk e => by have := e.1; omega))
    obtain ⟨-, cs, -, hcb, hcw⟩ := f14
    subst hcw
    clear hG hH
    obtain ⟨w8, rfl⟩ : ∃ q, q = w := ⟨_, rfl⟩
    have HC8 := Lib.hid hcb
    go_wp2_with fail
    refine ret_tyI2 (X := w0.heap.size + 1 + 1) rfl rfl rfl HC8.out rfl ?_
    exact ⟨K8.out, ta, tc, by rw [HXF.out]; rfl, by rw [HXF.out]; exact HON.out⟩
   | true =>
    cases c with
    | true =>
     have HXF : Hid (x = (t, false)) := Lib.hid (by rw [HX4.out rfl]; rfl)
     go_upto_region 12 with fail
     refine St.wp_region_rn 16 (St.GY 26 5 (fun cs => cs = #[.int .u8 t.k, .bool t.m, .int .i64 t.r, .int .i64 t.s, .slice ta t.of.length tc]) V2.heap.size) (St.kindXn [(6, (fun _ y => y = .bool true), fun _ _ _ _ => True), (14, fun _ y => y = undef, St.HasT 26 5 V2.heap.size (fun cs => cs = #[.int .u8 t.k, .bool t.m, .int .i64 t.r, .int .i64 t.s, .slice ta t.of.length tc]))]) (by kernel_rfl) (by kernel_rfl) St.gy_trans St.gy_refl (St.gy_kbF (KB.refl _ _).drew) (fun _ _ h => h.size) (St.kindXn_mono _ (by intro q hq; simp only [List.mem_cons, List.not_mem_nil, or_false] at hq; rcases hq with rfl | rfl; exact fun _ _ _ _ _ _ h => h; exact St.hasT_gy)) ?_
     simp only [pT, pU, pV, pW]
     refine St.rn_det (by kernel_rfl) rfl (by intro w hG hH; go_simp; first | done | with_reducible rfl) ?_
     simp only [Act.put, pA, pZ, pS]
     refine St.rn_det (by kernel_rfl) rfl (by intro w hG hH; have c0 := hy0 w hG; have c1 := hy1 w hG; have c2 := hy2 w hG; have c3 := hy3 w hG; have c4 := hy4 w hG; go_simp; first | done | with_reducible rfl) ?_
     simp only [Act.put, pA, pZ, pS]
     refine St.rn_det (by kernel_rfl) rfl (by intro w hG hH; go_simp; first | done | with_reducible rfl) ?_
     simp only [Act.put, pA, pZ, pS]
     refine St.rn_det (by kernel_rfl) rfl (by intro w hG hH; go_simp; first | done | with_reducible rfl) ?_
     simp only [Act.put, pA, pZ, pS]
     refine St.rn_det (by kernel_rfl) rfl (by intro w hG hH; go_simp; first | done | with_reducible rfl) ?_
     simp only [Act.put, pA, pZ, pS]
     refine St.rn_det (by kernel_rfl) rfl (by intro w hG hH; have c0 := hy0 w hG; have c1 := hy1 w hG; have c2 := hy2 w hG; have c3 := hy3 w hG; have c4 := hy4 w hG; go_simp; first | done | with_reducible rfl) ?_
     simp only [Act.put, pA, pZ, pS]
     refine St.rn_plain (by kernel_rfl) rfl ⟨_, rfl⟩ (fun _ _ h => h.size) (by
      intro w hG hH
      refine St.opVal_call (by go_simp; first | done | exact ⟨⟨rfl, rfl⟩, rfl⟩) ?_
      refine (CP.out rfl w (K2.out.oldS hG.1 (fun k hk e => by have := e.1; omega))).mono ?_
      rintro e w' ⟨rfl, hk⟩
      exact ⟨_, rfl, rfl, St.gy_kbF hk, fun _ => trivial⟩) ?_
     rintro y g6 rfl
     simp only [Act.put, pA, pZ, pS]
     refine St.rn_det (by kernel_rfl) rfl (by intro w hG hH; go_simp; first | done | with_reducible rfl) ?_
     simp only [Act.put, pA, pZ, pS]
     refine St.rn_det (by kernel_rfl) rfl (by intro w hG hH; go_simp; first | done | with_reducible rfl) ?_
     simp only [Act.put, pA, pZ, pS]
     refine St.rn_det (by kernel_rfl) rfl (by intro w hG hH; go_simp; first | done | with_reducible rfl) ?_
     simp only [Act.put, pA, pZ, pS]
     refine St.rn_skip (by kernel_rfl) ?_
     simp only [Act.put, pA, pZ, pS]
     refine St.rn_skip (by kernel_rfl) ?_
     simp only [Act.put, pA, pZ, pS]
     refine St.rn_skip (by kernel_rfl) ?_
     simp only [Act.put, pA, pZ, pS]
     refine St.rn_det (by kernel_rfl) rfl (by intro w hG hH; go_simp; first | done | with_reducible rfl) ?_
     simp only [Act.put, pA, pZ, pS]
     refine St.rn_plain (by kernel_rfl) rfl ⟨_, rfl⟩ (fun _ _ h => h.size) (by
      intro w hG hH
      obtain ⟨cs, hz, hc, -⟩ := hG.2 (w0.heap.size + 1 + 1) _ (by omega) rfl HRB.out
      obtain ⟨q0, q1, q2, q3, q4, rfl⟩ := arr5 hz
      have m0 := blk_cell hc 0
      have m1 := blk_cell hc 1
      have m2 := blk_cell hc 2
      have m3 := blk_cell hc 3
      have m4 := blk_cell hc 4
      have n0 := blk_frozen hc 0
      have n1 := blk_frozen hc 1
      have n2 := blk_frozen hc 2
      have n3 := blk_frozen hc 3
      have n4 := blk_frozen hc 4
      simp only [List.getElem?_toArray, List.getElem?_cons_zero, List.getElem?_cons_succ] at m0 m1 m2 m3 m4
      refine St.opVal_storeT (w0 := V2) (w' := set5 w (w0.heap.size + 1 + 1) (.int .u8 t.k) (.bool t.m) (.int .i64 t.r) (.int .i64 t.s) (.slice ta t.of.length tc)) (by omega) hc rfl rfl (set5_kb w _ _ _ _ _ _) (set5_blk hc _ _ _ _ _) rfl ?_
      unfold set5
      go_simp
      first | done | rfl) ?_
     rintro y g14 rfl
     simp only [Act.put, pA, pZ, pS]
     refine St.rn_det (by kernel_rfl) rfl (by intro w hG hH; go_simp; first | done | with_reducible rfl) ?_
     simp only [Act.put, pA, pZ, pS]
     refine St.rn_nil (fun w hG hH => ?_)
     have f14 := hH _ List.mem_cons_self (w0.heap.size + 1 + 1) rfl
     have K8 := Lib.hid (K2.out.oldS hG.1 (fun k hk e => by have := e.1; omega))
     obtain ⟨-, cs, -, hcb, hcw⟩ := f14
     subst hcw
     clear hG hH
     obtain ⟨w8, rfl⟩ : ∃ q, q = w := ⟨_, rfl⟩
     have HC8 := Lib.hid hcb
     go_wp2_with fail
     refine ret_tyI2 (X := w0.heap.size + 1 + 1) rfl rfl rfl HC8.out rfl ?_
     exact ⟨K8.out, ta, tc, by rw [HXF.out]; rfl, by rw [HXF.out]; exact HON.out⟩
    | false =>
     have HXF : Hid (x = (t, q)) := Lib.hid (by rw [HX4.out rfl]; rfl)
     go_upto_region 12 with fail
     refine St.wp_region_rn 16 (St.GY 26 5 (fun cs => cs = #[.int .u8 t.k, .bool t.m, .int .i64 t.r, .int .i64 t.s, .slice ta t.of.length tc]) V2.heap.size) (St.kindXn [(6, (fun _ y => y = .bool false), fun _ _ _ _ => True), (14, fun _ y => y = undef, St.HasT 26 5 V2.heap.size (fun cs => cs = #[.int .u8 t.k, .bool t.m, .int .i64 t.r, .int .i64 t.s, .slice ta t.of.length tc]))]) (by kernel_rfl) (by kernel_rfl) St.gy_trans St.gy_refl (St.gy_kbF (KB.refl _ _).drew) (fun _ _ h => h.size) (St.kindXn_mono _ (by intro q hq; simp only [List.mem_cons, List.not_mem_nil, or_false] at hq; rcases hq with rfl | rfl; exact fun _ _ _ _ _ _ h => h; exact St.hasT_gy)) ?_
     simp only [pT, pU, pV, pW]
     refine St.rn_det (by kernel_rfl) rfl (by intro w hG hH; go_simp; first | done | with_reducible rfl) ?_
     simp only [Act.put, pA, pZ, pS]
     refine St.rn_det (by kernel_rfl) rfl (by intro w hG hH; have c0 := hy0 w hG; have c1 := hy1 w hG; have c2 := hy2 w hG; have c3 := hy3 w hG; have c4 := hy4 w hG; go_simp; first | done | with_reducible rfl) ?_
     simp only [Act.put, pA, pZ, pS]
     refine St.rn_det (by kernel_rfl) rfl (by intro w hG hH; go_simp; first | done | with_reducible rfl) ?_
     simp only [Act.put, pA, pZ, pS]
     refine St.rn_det (by kernel_rfl) rfl (by intro w hG hH; go_simp; first | done | with_reducible rfl) ?_
     simp only [Act.put, pA, pZ, pS]
     refine St.rn_det (by kernel_rfl) rfl (by intro w hG hH; go_simp; first | done | with_reducible rfl) ?_
     simp only [Act.put, pA, pZ, pS]
     refine St.rn_det (by kernel_rfl) rfl (by intro w hG hH; have c0 := hy0 w hG; have c1 := hy1 w hG; have c2 := hy2 w hG; have c3 := hy3 w hG; have c4 := hy4 w hG; go_simp; first | done | with_reducible rfl) ?_
     simp only [Act.put, pA, pZ, pS]
     refine St.rn_plain (by kernel_rfl) rfl ⟨_, rfl⟩ (fun _ _ h => h.size) (by
      intro w hG hH
      refine St.opVal_call (by go_simp; first | done | exact ⟨⟨rfl, rfl⟩, rfl⟩) ?_
      refine (CP.out rfl w (K2.out.oldS hG.1 (fun k hk e => by have := e.1; omega))).mono ?_
      rintro e w' ⟨rfl, hk⟩
      exact ⟨_, rfl, rfl, St.gy_kbF hk, fun _ => trivial⟩) ?_
     rintro y g6 rfl
     simp only [Act.put, pA, pZ, pS]
     refine St.rn_det (by kernel_rfl) rfl (by intro w hG hH; go_simp; first | done | with_reducible rfl) ?_
     simp only [Act.put, pA, pZ, pS]
     refine St.rn_det (by kernel_rfl) rfl (by intro w hG hH; go_simp; first | done | with_reducible rfl) ?_
     simp only [Act.put, pA, pZ, pS]
     refine St.rn_det (by kernel_rfl) rfl (by intro w hG hH; go_simp; first | done | with_reducible rfl) ?_
     simp only [Act.put, pA, pZ, pS]
     refine St.rn_det (by kernel_rfl) rfl (by intro w hG hH; go_simp; first | done | with_reducible rfl) ?_
     simp only [Act.put, pA, pZ, pS]
     refine St.rn_det (by kernel_rfl) rfl (by intro w hG hH; have c0 := hy5 w hG; go_simp; first | done | with_reducible rfl) ?_
     simp only [Act.put, pA, pZ, pS]
     refine St.rn_det (by kernel_rfl) rfl (by intro w hG hH; go_simp; first | done | with_reducible rfl) ?_
     simp only [Act.put, pA, pZ, pS]
     refine St.rn_det (by kernel_rfl) rfl (by intro w hG hH; go_simp; first | done | with_reducible rfl) ?_
     simp only [Act.put, pA, pZ, pS]
     refine St.rn_plain (by kernel_rfl) rfl ⟨_, rfl⟩ (fun _ _ h => h.size) (by
      intro w hG hH
      obtain ⟨cs, hz, hc, -⟩ := hG.2 (w0.heap.size + 1 + 1) _ (by omega) rfl HRB.out
      obtain ⟨q0, q1, q2, q3, q4, rfl⟩ := arr5 hz
      have m0 := blk_cell hc 0
      have m1 := blk_cell hc 1
      have m2 := blk_cell hc 2
      have m3 := blk_cell hc 3
      have m4 := blk_cell hc 4
      have n0 := blk_frozen hc 0
      have n1 := blk_frozen hc 1
      have n2 := blk_frozen hc 2
      have n3 := blk_frozen hc 3
      have n4 := blk_frozen hc 4
      simp only [List.getElem?_toArray, List.getElem?_cons_zero, List.getElem?_cons_succ] at m0 m1 m2 m3 m4
      refine St.opVal_storeT (w0 := V2) (w' := set5 w (w0.heap.size + 1 + 1) (.int .u8 t.k) (.bool t.m) (.int .i64 t.r) (.int .i64 t.s) (.slice ta t.of.length tc)) (by omega) hc rfl rfl (set5_kb w _ _ _ _ _ _) (set5_blk hc _ _ _ _ _) rfl ?_
      unfold set5
      go_simp
      first | done | rfl) ?_
     rintro y g14 rfl
     simp only [Act.put, pA, pZ, pS]
     refine St.rn_det (by kernel_rfl) rfl (by intro w hG hH; go_simp; first | done | with_reducible rfl) ?_
     simp only [Act.put, pA, pZ, pS]
     refine St.rn_nil (fun w hG hH => ?_)
     have f14 := hH _ List.mem_cons_self (w0.heap.size + 1 + 1) rfl
     have K8 := Lib.hid (K2.out.oldS hG.1 (fun k hk e => by have := e.1; omega))
     obtain ⟨-, cs, -, hcb, hcw⟩ := f14
     subst hcw
     clear hG hH
     obtain ⟨w8, rfl⟩ : ∃ q, q = w := ⟨_, rfl⟩
     have HC8 := Lib.hid hcb
     go_wp2_with fail
     refine ret_tyI2 (X := w0.heap.size + 1 + 1) rfl rfl rfl HC8.out rfl ?_
     exact ⟨K8.out, ta, tc, by rw [HXF.out]; rfl, by rw [HXF.out]; exact HON.out⟩
 have e3 : (k == 3) = false := by simpa using h3
 have e4 : (k == 4) = false := by simpa using h4
 have HXF : Hid (x = (ty0, false)) := Lib.hid (HX5.out h3 h4)
 cases sok <;> (
  go_wp2_with fail
  refine ret_tyI2 (X := w0.heap.size + 1 + 1) rfl rfl rfl (set5_blk HRB.out (.int .u8 0) (.bool false) (.int .i64 0) (.int .i64 0) (.slice none 0 0)) rfl ?_
  exact ⟨set5_new K2.out (show w0.heap.size ≤ w0.heap.size + 1 + 1 by omega) _ _ _ _ _, none, 0, by rw [HXF.out]; rfl, by rw [HXF.out]; exact Or.inl ⟨rfl, rfl, rfl⟩⟩)
end Go.Proofs.YtaeppaaolkcbbaaGreatDoor

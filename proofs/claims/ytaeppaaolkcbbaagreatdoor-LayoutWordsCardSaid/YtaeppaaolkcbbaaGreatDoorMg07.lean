/- layout, plainly: classes, sizes, where fields and boxes lie. layout.words. layout.field. -/
import Derived.Test.YtaeppaaolkcbbaaGreatDoorMg06
import Derived.Test.YtaeppaaolkcbbaaGreatDoorMg05
namespace Go.Proofs.YtaeppaaolkcbbaaGreatDoor
open Go.RowKit

def clsW (w : Int) : Int × Int := if w < 1 then (0, 2) else if w ≤ 1 then (0, 0) else if w ≤ 2 then (1, 0) else if w ≤ 4 then (2, 0) else if w ≤ 8 then (3, 0) else if w ≤ 16 then (4, 0) else (0, 2)
def sizW (c : Int) : Int × Int := if c = 0 then (1, 0) else if c = 1 then (2, 0) else if c = 2 then (4, 0) else if c = 3 then (8, 0) else if c = 4 then (16, 0) else (0, 2)

section
variable {S : List (List Ty)} (hg : GoodS S)
include hg
theorem GoodS.inR : InR S := inR_of hg.b1
theorem GoodS.len8 (i : Nat) : (fds S i).length ≤ 8 := by
 by_cases hi : i < S.length
 ·exact (sB1_fds (hg.b1 i hi)).2.1
 ·rw [fds_out hi]; simp
theorem GoodS.fin (t : Ty) : FinD S 34 t := (finD_all hg.inR hg.b2 t).le (by have := hg.len; omega)
theorem GoodS.w16 (n : Nat) (t : Ty) (hf : FinD S n t) (hin : InT S t) : wF S n t ≤ 16 := by
 have h1 : wF S (max n 34) t = wF S n t := wF_fin hf (Nat.le_max_left _ _)
 have h2 : wF S (max n 34) t = wF S 34 t := wF_fin (hg.fin t) (Nat.le_max_right _ _)
 rw [← h1, h2]
 by_cases hk : t.k = 5
 ·have h3 : wF S 34 t = wF S 34 (sTy t.s.toNat) := by
   unfold wF
   rw [if_pos hk, if_pos (show (sTy t.s.toNat).k = 5 from rfl)]
   rfl
  have h4 := hg.b3 t.s.toNat (by have := hin hk; omega)
  unfold sB3 at h4
  have h5 := of_decide_eq_false h4
  omega
 ·have : wF S 34 t = 1 := by unfold wF; rw [if_neg hk]
  omega
theorem GoodS.look {u : Nat} {f : Ty} (hf : f ∈ fds S u) : lookB S.length 48 f = true := by
 by_cases hi : u < S.length
 ·have := (sB1_fds (hg.b1 u hi)).2.2 f hf
  rw [mayB_bare] at this
  simp only [Bool.and_eq_true] at this
  exact this.1
 ·rw [fds_out hi] at hf; cases hf
end
theorem look_inT {S : List (List Ty)} {d : Nat} {t : Ty} (h : lookB S.length d t = true) : InT S t := by
 intro hk
 cases d with
 | zero => cases h
 | succ d =>
  rw [lookB_succ] at h
  unfold lookV at h
  simp [hk] at h
  omega
theorem look_box {n d : Nat} {t : Ty} (h : lookB n (d + 1) t = true) (hk : t.k = 3) : t.of.length = 1 ∧ lookB n d (in0 t) = true := by
 rw [lookB_succ] at h
 unfold lookV at h
 simp [hk] at h
 exact ⟨h.2.2.1, h.2.2.2⟩

def bxL (rec : Ty → Nat → List (Nat × Ty)) (wd : Ty → Nat) : List Ty → Nat → List (Nat × Ty)
 | [], _ => []
 | f :: l, a => rec f a ++ bxL rec wd l (a + wd f)
def bxF (S : List (List Ty)) : Nat → Ty → Nat → List (Nat × Ty)
 | 0, _, _ => []
 | n + 1, t, a => if t.k = 3 then [(a, in0 t)] else if t.k = 5 then bxL (bxF S n) (wF S n) (fds S t.s.toNat) a else []
theorem bxL_app (rec : Ty → Nat → List (Nat × Ty)) (wd : Ty → Nat) (l m : List Ty) : ∀ a, bxL rec wd (l ++ m) a = bxL rec wd l a ++ bxL rec wd m (a + (l.map wd).sum) := by
 induction l with
 | nil => intro a; simp [bxL]
 | cons f l ih =>
  intro a
  simp only [List.cons_append, bxL, ih, List.append_assoc, List.map_cons, List.sum_cons, Nat.add_assoc]
theorem bxL_step (rec : Ty → Nat → List (Nat × Ty)) (wd : Ty → Nat) {l : List Ty} {i : Nat} (h : i < l.length) (a : Nat) :
  bxL rec wd (l.take (i + 1)) a = bxL rec wd (l.take i) a ++ rec (l.getD i ty0) (a + ((l.map wd).take i).sum) := by
 rw [List.take_succ_eq_append_getElem h, bxL_app]
 simp only [bxL, List.append_nil]
 rw [List.getD_eq_getElem?_getD, List.getElem?_eq_getElem h, List.map_take]
 rfl

set_option maxRecDepth 100000 in
set_option maxHeartbeats 32000000 in
theorem lywords_any (S : List (List Ty)) (hS : InR S) (h32 : S.length ≤ 32) (h8 : ∀ i, (fds S i).length ≤ 100) (h16 : ∀ n t, FinD S n t → InT S t → wF S n t ≤ 16) (d : Nat) (a : Option Addr) (c : Nat) : ∀ (n : Nat) (t : Ty) (ta : Option Addr) (tc : Nat) (w : World), FinD S n t → InT S t → StsAt d w a S →
  Calls Tryz.prog 46 #[.slice a S.length c, tyV t ta tc] w fun e w' => e = .returned (.int .i64 (wF S n t : Nat)) ∧ KB F0 w w' := by
 intro n
 induction n with
 | zero => intro t ta tc w h; exact h.elim
 | succ n ih =>
  intro t ta tc w hfin hin h
  obtain ⟨w0, rfl⟩ : ∃ w0, w0 = w := ⟨_, rfl⟩
  obtain ⟨W, hW⟩ : ∃ W, W = w0.alloc (.cells #[.int .u8 t.k, .bool t.m, .int .i64 t.r, .int .i64 t.s, .slice ta t.of.length tc] 26) := ⟨_, rfl⟩
  obtain ⟨kb, hb⟩ := boxTy w0 t ta tc
  rw [← hW] at kb hb
  have HW := Lib.hid hW
  have HB := Lib.hid (And.intro kb hb)
  have g0 : W.cell? ⟨w0.heap.size, 0, none⟩ = some (.int .u8 t.k) := blk_cell hb 0
  have g3 : W.cell? ⟨w0.heap.size, 3, none⟩ = some (.int .i64 t.s) := blk_cell hb 3
  obtain ⟨LS, hLS⟩ : ∃ L, L = S.length := ⟨_, rfl⟩
  have HLS := Lib.hid hLS
  rw [← hLS] at h32 ⊢
  clear kb hb hW hLS
  unfold tyV
  by_cases hk : t.k = 5
  ·obtain ⟨u, hu⟩ : ∃ u : Nat, t.s = (u : Int) := ⟨t.s.toNat, by have := hin hk; omega⟩
   have hun : t.s.toNat = u := by omega
   have huL : u < LS := by have := hin hk; rw [HLS.out]; omega
   have huI : (u : Int) < (LS : Int) := by omega
   obtain ⟨sb, so, snm, sfa, sfc, rfl, -, hsl0, hsc, hfd⟩ := h u (by rw [← HLS.out]; exact huL)
   have hsl := HB.out.1.cell (p := ⟨sb, so + u * 2 + 1, none⟩) (fun x => x) hsl0
   obtain ⟨F, hF⟩ : ∃ F, F = S.getD u [] := ⟨_, rfl⟩
   rw [← hF] at hsl hsc hfd
   obtain ⟨Lf, hLf⟩ : ∃ L, L = F.length := ⟨_, rfl⟩
   rw [← hLf] at hsl hsc
   have hLf100 : Lf ≤ 100 := by rw [hLf, hF]; exact h8 u
   have hLu : Lf = (fds S u).length := by rw [hLf, hF]; rfl
   have HF : Hid (∀ i, i < Lf → FinD S n ((fds S u).getD i ty0) ∧ InT S ((fds S u).getD i ty0)) := Lib.hid (fun i hi => by
    have hm := fds_mem (S := S) (u := u) (i := i) (by omega)
    exact ⟨hfin hk _ (by rw [hun]; exact hm), hS.inT hm⟩)
   have HU := Lib.hid (And.intro hF (And.intro hLf (And.intro hsc (And.intro hfd hLu))))
   have HR : Hid (wF S (n + 1) t = wsum S n u Lf) := Lib.hid (by rw [wF_struct hk, hun, hLu])
   have HT16 : Hid (wsum S n u Lf ≤ 16) := Lib.hid (by rw [← HR.out]; exact h16 _ _ hfin hin)
   have IH := Lib.hid (fun (i : Nat) (hi : i < Lf) (fa' : Option Addr) (fc' : Nat) (V : World) (hV : KB F0 w0 V) => ih ((fds S u).getD i ty0) fa' fc' V (HF.out i hi).1 (HF.out i hi).2 (h.kbF hV))
   rw [← HLS.out] at IH
   rw [hk] at g0
   rw [hu] at g3 HW
   rw [hu, hk]
   rw [hk] at HW
   generalize t.m = tm at HW ⊢
   generalize t.r = tr at HW ⊢
   generalize t.of.length = tl at HW ⊢
   rw [HR.out]
   have hfd2 := HU.out.2.2.2.1
   clear hfin hin h ih hsl0 hsc hfd hF hLf hLu hk hun hu hS h8 h16 hfd2
   go_enter Tryz.func46, Tryz.ntmps46
   go_upto_region 1 with fail
   rw [← HW.out]
   go_wp2_with fail
   go_loopg [18, 5] Lf (fun g iv sv wr => ∃ i, i ≤ Lf ∧ g = Lf - i ∧ iv = .int .i64 (i : Nat) ∧ sv = .int .i64 (wsum S n u i : Nat) ∧ Hid (KB F0 w0 wr))
   case atStart => exact ⟨0, by omega, by omega, rfl, by rw [wsum_zero]; rfl, Lib.hid HB.out.1⟩
   case round =>
    obtain ⟨i, hi, rfl, rfl, rfl, hkw⟩ := hrel
    obtain ⟨wi, rfl⟩ : ∃ w, w = wr := ⟨_, rfl⟩
    by_cases hlt : i < Lf
    ·have hiI : (i : Int) < (Lf : Int) := by omega
     have dI : decide ((i : Int) < (Lf : Int)) = true := decide_eq_true hiI
     obtain ⟨fb, fo, fnm, fa', fc', rfl, hnm, hty, -⟩ := HU.out.2.2.2.1 i (by rw [← HU.out.2.1]; exact hlt)
     have n0 := hkw.out.cell (p := ⟨fb, fo + i * 6, none⟩) (fun x => x) hnm
     obtain ⟨t0, t1, t2, t3, t4⟩ := hty.kbF hkw.out
     have hFi : F.getD i ty0 = (fds S u).getD i ty0 := by rw [HU.out.1]; rfl
     rw [hFi] at t0 t1 t2 t3 t4
     have IHi := Lib.hid (IH.out i hlt fa' fc')
     have hsu : wsum S n u (i + 1) = wsum S n u i + wF S n ((fds S u).getD i ty0) := wsum_succ (by rw [← HU.out.2.2.2.2]; exact hlt)
     have HTL := Lib.hid (show wsum S n u (i + 1) ≤ wsum S n u Lf from by rw [HU.out.2.2.2.2]; exact wsum_le)
     generalize (fds S u).getD i ty0 = f at t0 t1 t2 t3 t4 IHi hsu
     obtain ⟨x, hx⟩ : ∃ x, x = wF S n f := ⟨_, rfl⟩
     rw [← hx] at IHi
     unfold tyV at IHi
     have HX := Lib.hid (And.intro hx hsu)
     obtain ⟨s, hs⟩ : ∃ s, s = wsum S n u i := ⟨_, rfl⟩
     rw [← hs]
     have HS := Lib.hid hs
     have hb16 : s + x ≤ 16 := by have := HTL.out; have := HT16.out; omega
     clear hnm hty hFi hx hsu hs
     generalize f.k = fk at t0 IHi
     generalize f.m = fm at t1 IHi
     generalize f.r = fr at t2 IHi
     generalize f.s = fs at t3 IHi
     generalize f.of.length = N at t4 IHi
     have ka := (KB.refl F0 wi).alloc (.cells #[.string fnm, .int .u8 fk, .bool fm, .int .i64 fr, .int .i64 fs, .slice fa' N fc'] 83)
     have KA := Lib.hid ka
     have hwr : IntKind.i64.wrap ((s : Int) + (x : Int)) = ((s + x : Nat) : Int) := by rw [w64 (by omega) (by omega)]; omega
     clear ka
     go_wp2_with fail
     refine (IHi.out _ (hkw.out.trans KA.out)).mono ?_
     rintro e w5 ⟨rfl, k5⟩
     have K5 := Lib.hid (hkw.out.trans (KA.out.trans k5))
     clear k5 n0 t0 t1 t2 t3 t4
     have HN : Hid (wsum S n u (i + 1) = s + x) := Lib.hid (by have := HX.out; have := HS.out; omega)
     go_wp2_with fail
     go_roundg (Lf - (i + 1))
     case measure => omega
     case rel => exact ⟨i + 1, by omega, rfl, by go_num, by rw [HN.out]; first | rfl | go_num, K5⟩
    ·obtain rfl : i = Lf := by omega
     have dI : decide ((i : Int) < (i : Int)) = false := decide_eq_false (by omega)
     go_wp2_with fail
     go_ret
     exact ⟨rfl, hkw.out⟩
  ·have hk2 : (t.k != 5) = true := by simpa using hk
   have HR : Hid (wF S (n + 1) t = 1) := Lib.hid (by simp [wF, hk])
   rw [HR.out]
   generalize t.k = tk at g0 HW hk2 ⊢
   generalize t.m = tm at HW ⊢
   generalize t.r = tr at HW ⊢
   generalize t.s = ts at HW ⊢
   generalize t.of.length = tl at HW ⊢
   clear hk hfin hin h ih hS h8 h16 g3
   go_enter Tryz.func46, Tryz.ntmps46
   go_upto_region 1 with fail
   rw [← HW.out]
   go_wp2_with fail
   go_ret
   exact ⟨rfl, HB.out.1⟩

set_option maxRecDepth 100000 in
set_option maxHeartbeats 32000000 in
theorem lyfield_any (S : List (List Ty)) (hg : GoodS S) (d : Nat) (a : Option Addr) (c : Nat) (u : Nat) (hu : u < S.length) (K : Nat) (hK : K ≤ (fds S u).length) (w : World) (h : StsAt d w a S) :
  Calls Tryz.prog 36 #[.slice a S.length c, .int .i64 (u : Nat), .int .i64 (K : Nat)] w fun e w' => e = .returned (.int .i64 (wsum S 34 u K : Nat)) ∧ KB F0 w w' := by
 obtain ⟨w0, rfl⟩ : ∃ w0, w0 = w := ⟨_, rfl⟩
 obtain ⟨LS, hLS⟩ : ∃ L, L = S.length := ⟨_, rfl⟩
 have HLS := Lib.hid hLS
 have huI : (u : Int) < (S.length : Int) := by omega
 obtain ⟨sb, so, snm, sfa, sfc, rfl, -, hsl, hsc, hfd⟩ := h u hu
 obtain ⟨F, hF⟩ : ∃ F, F = S.getD u [] := ⟨_, rfl⟩
 rw [← hF] at hsl hsc hfd
 obtain ⟨Lf, hLf⟩ : ∃ L, L = F.length := ⟨_, rfl⟩
 rw [← hLf] at hsl hsc
 have hLu : Lf = (fds S u).length := by rw [hLf, hF]; rfl
 have hLf8 : Lf ≤ 8 := by rw [hLu]; exact hg.len8 u
 have hKL : K ≤ Lf := by rw [hLu]; exact hK
 have hKI : (K : Int) ≤ (sfc : Int) := by omega
 have hKc : K ≤ sfc := by omega
 have HU := Lib.hid (And.intro hF (And.intro hLf (And.intro hsc (And.intro hfd hLu))))
 have HT16 : Hid (wsum S 34 u Lf ≤ 16) := Lib.hid (by
  have h1 := hg.w16 35 (sTy u) ((hg.fin (sTy u)).le (by omega)) (fun _ => ⟨by show (0 : Int) ≤ (u : Int); omega, by show (u : Int) < _; omega⟩)
  rw [wF_struct (show (sTy u).k = 5 from rfl)] at h1
  rw [hLu]
  exact h1)
 have IH := Lib.hid (fun (i : Nat) (hi : i < Lf) (fa' : Option Addr) (fc' : Nat) (V : World) (hV : KB F0 w0 V) =>
  lywords_any S hg.inR hg.len (fun i => Nat.le_trans (hg.len8 i) (by omega)) (fun n t hf hi => hg.w16 n t hf hi) d (some ⟨sb, so, none⟩) c 34 ((fds S u).getD i ty0) fa' fc' V (hg.fin _) (hg.inR.inT (fds_mem (by omega))) (h.kbF hV))
 rw [← HLS.out] at IH huI ⊢
 clear h hfd hF hLf hLu hg hu hK hLS
 go_enter Tryz.func36, Tryz.ntmps36
 go_wp2_with fail
 go_loopg [18, 7] K (fun g iv sv wr => ∃ i, i ≤ K ∧ g = K - i ∧ iv = .int .i64 (i : Nat) ∧ sv = .int .i64 (wsum S 34 u i : Nat) ∧ Hid (KB F0 w0 wr))
 case atStart => exact ⟨0, by omega, by omega, rfl, by rw [wsum_zero]; rfl, Lib.hid (KB.refl _ _)⟩
 case round =>
  obtain ⟨i, hi, rfl, rfl, rfl, hkw⟩ := hrel
  obtain ⟨wi, rfl⟩ : ∃ w, w = wr := ⟨_, rfl⟩
  by_cases hlt : i < K
  ·have hiI : (i : Int) < (K : Int) := by omega
   have dI : decide ((i : Int) < (K : Int)) = true := decide_eq_true hiI
   obtain ⟨fb, fo, fnm, fa', fc', rfl, hnm, hty, -⟩ := HU.out.2.2.2.1 i (by rw [← HU.out.2.1]; omega)
   have n0 := hkw.out.cell (p := ⟨fb, fo + i * 6, none⟩) (fun x => x) hnm
   obtain ⟨t0, t1, t2, t3, t4⟩ := hty.kbF hkw.out
   have hFi : F.getD i ty0 = (fds S u).getD i ty0 := by rw [HU.out.1]; rfl
   rw [hFi] at t0 t1 t2 t3 t4
   have IHi := Lib.hid (IH.out i (by omega) fa' fc')
   have hsu : wsum S 34 u (i + 1) = wsum S 34 u i + wF S 34 ((fds S u).getD i ty0) := wsum_succ (by rw [← HU.out.2.2.2.2]; omega)
   have HTL := Lib.hid (show wsum S 34 u (i + 1) ≤ wsum S 34 u Lf from by rw [HU.out.2.2.2.2]; exact wsum_le)
   generalize (fds S u).getD i ty0 = f at t0 t1 t2 t3 t4 IHi hsu
   obtain ⟨x, hx⟩ : ∃ x, x = wF S 34 f := ⟨_, rfl⟩
   rw [← hx] at IHi
   unfold tyV at IHi
   have HX := Lib.hid (And.intro hx hsu)
   obtain ⟨s, hs⟩ : ∃ s, s = wsum S 34 u i := ⟨_, rfl⟩
   rw [← hs]
   have HS := Lib.hid hs
   have hb16 : s + x ≤ 16 := by have := HTL.out; have := HT16.out; omega
   clear hnm hty hFi hx hsu hs
   generalize f.k = fk at t0 IHi
   generalize f.m = fm at t1 IHi
   generalize f.r = fr at t2 IHi
   generalize f.s = fs at t3 IHi
   generalize f.of.length = N at t4 IHi
   have ka := (KB.refl F0 wi).alloc (.cells #[.string fnm, .int .u8 fk, .bool fm, .int .i64 fr, .int .i64 fs, .slice fa' N fc'] 83)
   have KA := Lib.hid ka
   have hwr : IntKind.i64.wrap ((s : Int) + (x : Int)) = ((s + x : Nat) : Int) := by rw [w64 (by omega) (by omega)]; omega
   clear ka
   go_wp2_with fail
   refine (IHi.out _ (hkw.out.trans KA.out)).mono ?_
   rintro e w5 ⟨rfl, k5⟩
   have K5 := Lib.hid (hkw.out.trans (KA.out.trans k5))
   clear k5 n0 t0 t1 t2 t3 t4
   have HN : Hid (wsum S 34 u (i + 1) = s + x) := Lib.hid (by have := HX.out; have := HS.out; omega)
   go_wp2_with fail
   go_roundg (K - (i + 1))
   case measure => omega
   case rel => exact ⟨i + 1, by omega, rfl, by go_num, by rw [HN.out]; first | rfl | go_num, K5⟩
  ·obtain rfl : i = K := by omega
   have dI : decide ((i : Int) < (i : Int)) = false := decide_eq_false (by omega)
   go_wp2_with fail
   go_ret
   exact ⟨rfl, hkw.out⟩
end Go.Proofs.YtaeppaaolkcbbaaGreatDoor

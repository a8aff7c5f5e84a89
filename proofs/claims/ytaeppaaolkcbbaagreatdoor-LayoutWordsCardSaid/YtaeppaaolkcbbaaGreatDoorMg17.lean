/- loanwordref23.boxes, Boxes. -/
import Derived.Test.YtaeppaaolkcbbaaGreatDoorMg16
import Derived.Test.YtaeppaaolkcbbaaGreatDoorMg09
import Derived.Test.YtaeppaaolkcbbaaGreatDoorMg13
namespace Go.Proofs.YtaeppaaolkcbbaaGreatDoor
open Go.RowKit

def bdCs (p : Nat) (u : Ty) (a : Option Addr) (c : Nat) : List Value := [.int .i64 (p : Nat), .int .u8 u.k, .bool u.m, .int .i64 u.r, .int .i64 u.s, .slice a u.of.length c]
structure BdOk (wb : World) (L : List (Nat × Ty)) (us : List Value) : Prop where
 len : us.length = L.length * 6
 one : ∀ x ∈ us, x.oneCell' = true
 els : ∀ k (h : k < L.length), ∃ ua uc, (∀ j, j < 6 → us[k * 6 + j]? = (bdCs L[k].1 L[k].2 ua uc)[j]?) ∧ TyAt 48 wb L[k].2 ua uc
theorem BdOk.nil (wb : World) : BdOk wb [] [] := ⟨rfl, fun x h => (by cases h), fun k h => absurd h (Nat.not_lt_zero k)⟩
theorem BdOk.one1 {wb : World} {p : Nat} {u : Ty} {ua : Option Addr} {uc : Nat} (h : TyAt 48 wb u ua uc) : BdOk wb [(p, u)] (bdCs p u ua uc) :=
 ⟨rfl, fun x hx => by simp only [bdCs, List.mem_cons, List.not_mem_nil, or_false] at hx; rcases hx with rfl | rfl | rfl | rfl | rfl | rfl <;> rfl, fun k hk => by
  obtain rfl : k = 0 := by simpa using hk
  exact ⟨ua, uc, fun j _ => by rw [Nat.zero_mul, Nat.zero_add]; rfl, h⟩⟩
theorem BdOk.app {wb : World} {L M : List (Nat × Ty)} {us vs : List Value} (h : BdOk wb L us) (k : BdOk wb M vs) : BdOk wb (L ++ M) (us ++ vs) := by
 refine ⟨by rw [List.length_append, List.length_append, h.len, k.len, Nat.add_mul], fun x hx => ?_, fun q hq => ?_⟩
 ·rcases List.mem_append.1 hx with hx | hx
  ·exact h.one x hx
  ·exact k.one x hx
 ·by_cases hl : q < L.length
  ·obtain ⟨ua, uc, h1, h2⟩ := h.els q hl
   refine ⟨ua, uc, fun j hj => ?_, ?_⟩
   ·rw [List.getElem?_append_left (by rw [h.len]; omega), h1 j hj, List.getElem_append_left hl]
   ·rw [List.getElem_append_left hl]; exact h2
  ·have hq2 : q - L.length < M.length := by rw [List.length_append] at hq; omega
   obtain ⟨ua, uc, h1, h2⟩ := k.els (q - L.length) hq2
   refine ⟨ua, uc, fun j hj => ?_, ?_⟩
   ·rw [List.getElem?_append_right (by rw [h.len]; omega), h.len, show q * 6 + j - L.length * 6 = (q - L.length) * 6 + j by omega, h1 j hj, List.getElem_append_right (by omega)]
   ·rw [List.getElem_append_right (by omega)]; exact h2
theorem wsum_eq {S : List (List Ty)} {n m u : Nat} (hnm : n ≤ m) (h : ∀ f ∈ fds S u, FinD S n f) (i : Nat) : wsum S m u i = wsum S n u i := by
 unfold wsum
 rw [List.map_congr_left (fun f hf => wF_fin (h f hf) hnm)]
theorem Tryz.infoBdd : (Tryz.prog.info? 101).map (fun i => (i.zero, i.size, i.bytes)) = some (some (.agg #[.int .i64 0, .int .u8 0, .bool false, .int .i64 0, .int .i64 0, .slice none 0 0]), 6, 56) := by kernel_rfl
def BdEnd (n : Nat) (us : List Value) (w : World) (e : Ending) (w' : World) : Prop := ∃ v, e = .returned v ∧ w'.ownsRow w.heap.size 101 6 v n us ∧ (v = .slice none 0 0 ↔ n = 0) ∧ KB F0 w w'
set_option maxRecDepth 100000 in
set_option maxHeartbeats 32000000 in
theorem rlboxes_any {S : List (List Ty)} (hg : GoodS S) (a : Option Addr) (c : Nat) (wb : World) (hS : StsAt 49 wb a S) : ∀ (n : Nat), n ≤ 34 → ∀ (t : Ty) (ta : Option Addr) (tc p : Nat),
  FinD S n t → lookB S.length 48 t = true → p + wF S n t ≤ 100 → TyAt 49 wb t ta tc → ∃ us, BdOk wb (bxF S n t p) us ∧ ∀ w, KB F0 wb w →
  Calls Tryz.prog 42 #[.slice a S.length c, tyV t ta tc, .int .i64 (p : Nat)] w (BdEnd (bxF S n t p).length us w) := by
 intro n
 induction n with
 | zero => intro _ t ta tc p h; exact h.elim
 | succ n ih =>
  intro hn34 t ta tc p hfin hlk hp hty
  by_cases h3 : t.k = 3
  ·obtain ⟨hl1, hlk0⟩ := look_box hlk h3
   obtain ⟨b, o, ua, uc, rfl, hc, hu⟩ := hty.in0 (by omega)
   have HR : bxF S (n + 1) t p = [(p, in0 t)] := by unfold bxF; rw [if_pos h3]
   rw [HR]
   refine ⟨bdCs p (in0 t) ua uc, BdOk.one1 hu, fun w hwb => ?_⟩
   obtain ⟨w0, rfl⟩ : ∃ w0, w0 = w := ⟨_, rfl⟩
   obtain ⟨W, hW⟩ : ∃ W, W = w0.alloc (.cells #[.int .u8 t.k, .bool t.m, .int .i64 t.r, .int .i64 t.s, .slice (some ⟨b, o, none⟩) t.of.length tc] 26) := ⟨_, rfl⟩
   obtain ⟨kb, hb⟩ := boxTy w0 t (some ⟨b, o, none⟩) tc
   rw [← hW] at kb hb
   obtain ⟨i0, i1, i2, i3, i4⟩ := hc.kbF (hwb.trans kb)
   have hone := (BdOk.one1 (p := p) hu).one
   have g0 : W.cell? ⟨w0.heap.size, 0, none⟩ = some (.int .u8 t.k) := blk_cell hb 0
   have g4 : W.cell? ⟨w0.heap.size, 4, none⟩ = some (.slice (some ⟨b, o, none⟩) t.of.length tc) := blk_cell hb 4
   have hs1 : W.heap.size = w0.heap.size + 1 := by rw [hW]; simp
   have HW := Lib.hid hW
   have HB := Lib.hid (And.intro kb (And.intro hone hs1))
   rw [hl1] at g4 HW
   rw [h3] at g0 HW
   unfold tyV
   rw [h3, hl1]
   unfold bdCs at HB ⊢
   generalize in0 t = u at *
   generalize u.k = uk at *
   generalize u.m = um at *
   generalize u.r = ur at *
   generalize u.s = us at *
   generalize u.of.length = ul at *
   generalize t.m = tm at HW ⊢
   generalize t.r = tr at HW ⊢
   generalize t.s = ts at HW ⊢
   clear hc hu hfin hlk hl1 h3 ih HR hlk0 kb hb hone hW hp hty hs1
   go_enter Tryz.func42, Tryz.ntmps42
   go_upto_region 1 with fail
   rw [← HW.out]
   go_wp2_with (at_builtin; refine Stopped.out ?_)
   refine ⟨?_⟩
   obtain ⟨W2, hW2⟩ : ∃ X, X = W.alloc (.cells #[.int .i64 (p : Nat), .int .u8 uk, .bool um, .int .i64 ur, .int .i64 us, .slice ua ul uc] 101) := ⟨_, rfl⟩
   have k2 : KB F0 W W2 := by rw [hW2]; exact (KB.refl _ _).alloc _
   have hnb : W2.heap[W.heap.size]? = some (.cells #[.int .i64 (p : Nat), .int .u8 uk, .bool um, .int .i64 ur, .int .i64 us, .slice ua ul uc] 101 (0, 0)) := by rw [hW2]; exact alloc_new _ _
   rw [show W.alloc (.cells #[.int .i64 (p : Nat), .int .u8 uk, .bool um, .int .i64 ur, .int .i64 us, .slice ua ul uc] 101) = W2 from hW2.symm]
   have s1 := HB.out.2.2
   have s2 := k2.size
   obtain ⟨i, hi, hz0, hz1, hz2⟩ := info_parts Tryz.infoBdd
   refine wpList_append_own W2 rfl _ _ 98 rfl w0.heap.size 101 i _ 6 56 Tryz.underlying98 hi hz0 hz1 hz2 (by decide) (by decide) (.slice none 0 0) 0 [] rfl ⟨rfl, Or.inl ⟨rfl, rfl⟩⟩ ⟨W.heap.size, 0, none⟩ 1 _ [.int .i64 (p : Nat), .int .u8 uk, .bool um, .int .i64 ur, .int .i64 us, .slice ua ul uc] rfl rfl (cells_of_block hnb) HB.out.2.1 (by unfold maxLen; omega) (by omega) (by omega) ?_
   intro v3 w3 hown hgr hnil
   have k3 : KB F0 W2 w3 := (KB.refl _ _).grown hgr (fun k e h => by cases e)
   have K3 := Lib.hid (And.intro (HB.out.1.trans (k2.trans k3)) (And.intro hown hnil))
   have e0 : w3.cell? ⟨w0.heap.size, 0, none⟩ = some (.int .u8 3) := (k2.trans k3).cell (p := ⟨w0.heap.size, 0, none⟩) (fun x => x) g0
   obtain ⟨va, vc, rfl, -⟩ := own_shape hown
   clear hown hgr k2 k3 hnb hW2 s1 s2 hnil hi hz0 hz1 hz2 g0 g4 i0 i1 i2 i3 i4
   go_wp2_with fail
   go_ret
   exact ⟨_, rfl, K3.out.2.1, Iff.intro (fun e => by have := (K3.out.2.2.1 e).2; omega) (fun e => absurd e (by decide)), K3.out.1⟩
  ·have hk3 : (t.k == 3) = false := by simpa using h3
   by_cases h5 : t.k = 5
   ·have hin := look_inT hlk
    obtain ⟨u, hu⟩ : ∃ u : Nat, t.s = (u : Int) := ⟨t.s.toNat, by have := hin h5; omega⟩
    have hun : t.s.toNat = u := by omega
    have huL : u < S.length := by have := hin h5; omega
    have huI : (u : Int) < (S.length : Int) := by omega
    obtain ⟨sb, so, snm, sfa, sfc, rfl, -, hsl0, hsc, hfd⟩ := hS u huL
    obtain ⟨F, hF⟩ : ∃ F, F = S.getD u [] := ⟨_, rfl⟩
    rw [← hF] at hsl0 hsc hfd
    obtain ⟨Lf, hLf⟩ : ∃ L, L = F.length := ⟨_, rfl⟩
    rw [← hLf] at hsl0 hsc
    have hLu : Lf = (fds S u).length := by rw [hLf, hF]; rfl
    have hLf8 : Lf ≤ 8 := by rw [hLu]; exact hg.len8 u
    have hfa : ∀ f ∈ fds S u, FinD S n f := fun f hf => hfin h5 f (by rw [hun]; exact hf)
    have HF : Hid (∀ i, i < Lf → FinD S n ((fds S u).getD i ty0) ∧ InT S ((fds S u).getD i ty0) ∧ lookB S.length 48 ((fds S u).getD i ty0) = true) := Lib.hid (fun i hi => by
     have hm := fds_mem (S := S) (u := u) (i := i) (by omega)
     exact ⟨hfin h5 _ (by rw [hun]; exact hm), hg.inR.inT hm, hg.look hm⟩)
    have HR : bxF S (n + 1) t p = bxL (bxF S n) (wF S n) (fds S u) p := by unfold bxF; rw [if_neg h3, if_pos h5, hun]
    have hTot : p + wsum S n u Lf ≤ 100 := by rw [wF_struct h5, hun, ← hLu] at hp; exact hp
    have hsum : ∀ i, i < Lf → wsum S n u (i + 1) = wsum S n u i + wF S n ((fds S u).getD i ty0) := fun i hi => wsum_succ (by omega)
    have hle : ∀ i, wsum S n u i ≤ wsum S n u Lf := fun i => by rw [hLu]; exact wsum_le
    have hw34 : ∀ i, wsum S 34 u i = wsum S n u i := fun i => wsum_eq (by omega) hfa i
    have IH : ∀ i, i < Lf → ∃ us fa' fc', (∃ fb fo fnm, sfa = some ⟨fb, fo, none⟩ ∧ wb.cell? ⟨fb, fo + i * 6, none⟩ = some (.string fnm) ∧ TyCells wb fb (fo + i * 6 + 1) ((fds S u).getD i ty0) fa' fc') ∧ BdOk wb (bxF S n ((fds S u).getD i ty0) (p + wsum S n u i)) us ∧ ∀ w, KB F0 wb w →
      Calls Tryz.prog 42 #[.slice (some ⟨sb, so, none⟩) S.length c, tyV ((fds S u).getD i ty0) fa' fc', .int .i64 ((p + wsum S n u i : Nat) : Nat)] w (BdEnd (bxF S n ((fds S u).getD i ty0) (p + wsum S n u i)).length us w) := fun i hi => by
     obtain ⟨fb, fo, fnm, fa', fc', h1, h2, h4, h6⟩ := hfd i (by rw [← hLf]; exact hi)
     have e : F.getD i ty0 = (fds S u).getD i ty0 := by rw [hF]; rfl
     rw [e] at h4 h6
     obtain ⟨us, h7, h8⟩ := ih (by omega) ((fds S u).getD i ty0) fa' fc' (p + wsum S n u i) (HF.out i hi).1 (HF.out i hi).2.2 (by have := hsum i hi; have := hle (i + 1); omega) h6
     exact ⟨us, fa', fc', ⟨fb, fo, fnm, h1, h2, h4⟩, h7, h8⟩
    obtain ⟨g, hgI⟩ : ∃ g : Nat → List Value, ∀ i, i < Lf → ∃ fa' fc', (∃ fb fo fnm, sfa = some ⟨fb, fo, none⟩ ∧ wb.cell? ⟨fb, fo + i * 6, none⟩ = some (.string fnm) ∧ TyCells wb fb (fo + i * 6 + 1) ((fds S u).getD i ty0) fa' fc') ∧ BdOk wb (bxF S n ((fds S u).getD i ty0) (p + wsum S n u i)) (g i) ∧ ∀ w, KB F0 wb w →
      Calls Tryz.prog 42 #[.slice (some ⟨sb, so, none⟩) S.length c, tyV ((fds S u).getD i ty0) fa' fc', .int .i64 ((p + wsum S n u i : Nat) : Nat)] w (BdEnd (bxF S n ((fds S u).getD i ty0) (p + wsum S n u i)).length (g i) w) := by
     refine ⟨fun i => if h : i < Lf then Classical.choose (IH i h) else [], fun i hi => ?_⟩
     simp only [dif_pos hi]
     exact Classical.choose_spec (IH i hi)
    obtain ⟨U, hU0, hUs⟩ : ∃ U : Nat → List Value, U 0 = [] ∧ ∀ i, U (i + 1) = U i ++ g i := ⟨fun i => ((List.range i).map g).flatten, rfl, fun i => by simp [List.range_succ]⟩
    have BL : ∀ i, i ≤ Lf → BdOk wb (bxL (bxF S n) (wF S n) ((fds S u).take i) p) (U i) := by
     intro i
     induction i with
     | zero => intro _; rw [hU0]; exact BdOk.nil wb
     | succ i ihi =>
      intro hi
      rw [bxL_step _ _ (by omega), hUs]
      obtain ⟨fa', fc', -, h1, -⟩ := hgI i (by omega)
      exact (ihi (by omega)).app h1
    have hfull : (fds S u).take Lf = fds S u := by rw [hLu]; exact List.take_length
    refine ⟨U Lf, by rw [HR, ← hfull]; exact BL Lf (Nat.le_refl _), fun w hwb => ?_⟩
    rw [HR, ← hfull]
    obtain ⟨NB, hNB⟩ : ∃ NB : Nat → Nat, ∀ i, NB i = (bxL (bxF S n) (wF S n) ((fds S u).take i) p).length := ⟨_, fun _ => rfl⟩
    have hNs : ∀ i, i < Lf → NB (i + 1) = NB i + (bxF S n ((fds S u).getD i ty0) (p + wsum S n u i)).length := fun i hi => by
     rw [hNB, hNB, bxL_step _ _ (by omega), List.length_append]; rfl
    have hNl : ∀ i, i ≤ Lf → NB i ≤ wsum S n u i := by
     intro i
     induction i with
     | zero => intro _; rw [hNB]; simp [bxL]
     | succ i ihi =>
      intro hi
      have h1 := hNs i (by omega)
      have h2 := ihi (by omega)
      have h4 := hsum i (by omega)
      have h6 := bxF_len S n ((fds S u).getD i ty0) (p + wsum S n u i)
      omega
    have hN0 : NB 0 = 0 := by rw [hNB]; rfl
    rw [← hNB Lf]
    have HBL : Hid (∀ i, i < Lf → (g i).length = (bxF S n ((fds S u).getD i ty0) (p + wsum S n u i)).length * 6 ∧ ∀ x ∈ g i, x.oneCell' = true) := Lib.hid (fun i hi => by
     obtain ⟨fa', fc', -, h1, -⟩ := hgI i hi
     exact ⟨h1.len, h1.one⟩)
    have LI := Lib.hid (fun (i : Nat) (hi : i ≤ Lf) (V : World) (hV : KB F0 wb V) => rllies_any S hg (some ⟨sb, so, none⟩) c u huL i (by rw [← hLu]; exact hi) V (hS.kbF hV))
    obtain ⟨LS, hLS⟩ : ∃ L, L = S.length := ⟨_, rfl⟩
    have HX := Lib.hid (And.intro hgI (And.intro hNs (And.intro hw34 (And.intro hUs hNl))))
    have HSM := Lib.hid (And.intro hsum hle)
    have HU0 := Lib.hid hU0
    have HN0 := Lib.hid hN0
    have HTot := Lib.hid hTot
    rw [← hLS] at LI HX huI ⊢
    obtain ⟨w0, rfl⟩ : ∃ w0, w0 = w := ⟨_, rfl⟩
    obtain ⟨W, hW⟩ : ∃ W, W = w0.alloc (.cells #[.int .u8 t.k, .bool t.m, .int .i64 t.r, .int .i64 t.s, .slice ta t.of.length tc] 26) := ⟨_, rfl⟩
    obtain ⟨kb, hb⟩ := boxTy w0 t ta tc
    rw [← hW] at kb hb
    have HW := Lib.hid hW
    have HB := Lib.hid (And.intro hwb (And.intro kb hb))
    have HSL := Lib.hid hsl0
    have g0 : W.cell? ⟨w0.heap.size, 0, none⟩ = some (.int .u8 t.k) := blk_cell hb 0
    unfold tyV
    rw [h5] at g0 hb HW HB ⊢
    rw [hu] at hb HW HB ⊢
    generalize t.m = tm at *
    generalize t.r = tr at *
    generalize t.of.length = tl at *
    clear ih hfin hlk hp hty hin hun hsl0 hfd hF hLf hfa HR hTot hsum hle hw34 IH hgI hU0 hUs BL hfull hNB hNs hNl hN0 hLS hW kb hb hwb h3 hk3 h5 hu huL hLu HF hg hS
    go_enter Tryz.func42, Tryz.ntmps42
    go_upto_region 1 with fail
    rw [← HW.out]
    go_wp2_with fail
    clear g0
    go_loopg [8, 7] Lf (fun gm iv ov wr => ∃ (i N : Nat) (va : Option Addr) (vc : Nat), i ≤ Lf ∧ N ≤ 100 ∧ gm = Lf - i ∧ iv = .int .i64 (i : Nat) ∧ ov = .slice va N vc ∧ Hid (KB F0 W wr ∧ wr.ownsRow w0.heap.size 101 6 (.slice va N vc) N (U i) ∧ ((Value.slice va N vc) = .slice none 0 0 ↔ N = 0) ∧ N = NB i))
    case atStart => exact ⟨0, 0, none, 0, by omega, by omega, by omega, rfl, rfl, Lib.hid ⟨KB.refl _ _, by rw [HU0.out]; exact ⟨rfl, Or.inl ⟨rfl, rfl⟩⟩, by simp, HN0.out.symm⟩⟩
    case round =>
     obtain ⟨i, N, va, vc, hi, hN100, rfl, rfl, rfl, hst⟩ := hrel
     obtain ⟨wi, rfl⟩ : ∃ x : World, x = wr := ⟨_, rfl⟩
     have hbx := hst.out.1.heap (fun x => x) HB.out.2.2
     have e3 : wi.cell? ⟨w0.heap.size, 3, none⟩ = some (.int .i64 (u : Nat)) := blk_cell hbx 3
     have hsl := (HB.out.1.trans (HB.out.2.1.trans hst.out.1)).cell (p := ⟨sb, so + u * 2 + 1, none⟩) (fun x => x) HSL.out
     by_cases hlt : i < Lf
     ·have hiI : (i : Int) < (Lf : Int) := by omega
      have dI : decide ((i : Int) < (Lf : Int)) = true := decide_eq_true hiI
      obtain ⟨fa', fc', ⟨fb, fo, fnm, rfl, hnm, hty⟩, -, hcall⟩ := HX.out.1 i hlt
      have hNN := HX.out.2.1 i hlt
      have hgl := HBL.out i hlt
      have hNb := HX.out.2.2.2.2 (i + 1) (by omega)
      have hwl := HSM.out.2 (i + 1)
      have hwi := HSM.out.2 i
      have hT := HTot.out
      have LIi := LI.out i hi
      rw [HX.out.2.2.1 i] at LIi
      obtain ⟨M, hM⟩ : ∃ M, M = (bxF S n ((fds S u).getD i ty0) (p + wsum S n u i)).length := ⟨_, rfl⟩
      rw [← hM] at hcall hNN hgl
      obtain ⟨x, hx⟩ : ∃ x, x = wsum S n u i := ⟨_, rfl⟩
      rw [← hx] at hcall LIi hwi
      have hNM : N + M ≤ 100 := by have := hst.out.2.2.2; omega
      have HNN : Hid (N + M = NB (i + 1)) := Lib.hid (by rw [hNN, hst.out.2.2.2])
      have HUS : Hid (U (i + 1) = U i ++ g i) := Lib.hid (HX.out.2.2.2.1 i)
      have hwr : IntKind.i64.wrap ((p : Int) + (x : Int)) = ((p + x : Nat) : Int) := by rw [w64 (by omega) (by omega)]; omega
      clear hNb hNN hM hx hwl
      generalize (fds S u).getD i ty0 = f at *
      have HC := Lib.hid hcall
      have HL := Lib.hid LIi
      have HTY := Lib.hid hty
      have HGL := Lib.hid hgl
      unfold tyV at HC
      have HBK : Hid (∀ k, (Value.slice va N vc).ownBlock = some k → w0.heap.size < k ∧ k < wi.heap.size) := Lib.hid (fun k e => by
       have h1 := hst.out.2.1.lt k e
       obtain ⟨c1, h2, -⟩ := own_block hst.out.2.1 e
       have h3 := obj_ne h2 hbx (by decide)
       exact ⟨by omega, h1.2⟩)
      have HKW : Hid (∀ w, AV.GA 6 w0.heap.size 101 (.slice va N vc) (N + M) (U i ++ g i) wi w → KB F0 wb w) := Lib.hid (fun w hG => (HB.out.1.trans (HB.out.2.1.trans hst.out.1)).oldS hG.1 (fun k hk e => by
       have h1 := (HBK.out k e).1
       have h2 := HB.out.1.size
       omega))
      have HBX : Hid (∀ w, AV.GA 6 w0.heap.size 101 (.slice va N vc) (N + M) (U i ++ g i) wi w → w.cell? ⟨w0.heap.size, 3, none⟩ = some (.int .i64 (u : Nat))) := Lib.hid (fun w hG => hG.1.cell (p := ⟨w0.heap.size, 3, none⟩) (fun e => absurd (HBK.out w0.heap.size e).1 (Nat.lt_irrefl _)) e3)
      have HOW := Lib.hid hst.out.2.1
      have HK0 := Lib.hid hst.out.1
      have HNI := Lib.hid hst.out.2.2.1
      clear hst hcall LIi hty hgl hnm hbx
      go_upto_region 8 with fail
      clear e3 hsl
      refine wp_region_rv 21 (AV.GA 6 w0.heap.size 101 (.slice va N vc) (N + M) (U i ++ g i)) (kindW [(17, (fun v => v = .int .i64 (x : Nat)), (fun _ _ => True)), (19, (fun v => ∃ a c, v = .slice a M c), (fun v w => w.ownsRow wi.heap.size 101 6 v M (g i) ∧ (v = .slice none 0 0 ↔ M = 0))), (20, (fun v => (∃ a c, v = .slice a (N + M) c) ∧ (M = 0 → v = .slice va N vc)), AV.FA 6 w0.heap.size wi.heap.size 101 (.slice va N vc) (N + M) (U i ++ g i))])
       (by kernel_rfl) (by kernel_rfl) AV.GA.trans AV.GA.refl (AV.GA.start _) (AV.kindW_monoG _ (by
        intro q hq; simp only [List.mem_cons, List.not_mem_nil, or_false] at hq
        rcases hq with rfl | rfl | rfl
        ·intro v a b hG hf; trivial
        ·rintro v a b hG ⟨h1, h2⟩
         exact ⟨own_kb h1 hG.1 (fun k e1 e2 => by have := (h1.lt k e1).1; have := (HBK.out k e2).2; omega), h2⟩
        ·intro v a b hG hf
         exact hf.lasts hG)) ?_
      simp only [pT, pU, pV, pW]
      iterate 4 (refine rv_det (by kernel_rfl) rfl (by intro w hG hH; go_simp; first | done | with_reducible rfl) ?_; simp only [Act.put, pA, pZ, pS])
      refine rv_det (by kernel_rfl) rfl (by intro w hG hH; have c3 := HBX.out w hG; go_simp; first | done | with_reducible rfl) ?_
      simp only [Act.put, pA, pZ, pS]
      iterate 2 (refine rv_det (by kernel_rfl) rfl (by intro w hG hH; go_simp; first | done | with_reducible rfl) ?_; simp only [Act.put, pA, pZ, pS])
      refine rv_det (by kernel_rfl) rfl (by intro w hG hH; have s1 := (HKW.out w hG).cell (p := ⟨sb, so + u * 2 + 1, none⟩) (fun x => x) HSL.out; go_simp; first | done | with_reducible rfl) ?_
      simp only [Act.put, pA, pZ, pS]
      iterate 3 (refine rv_det (by kernel_rfl) rfl (by intro w hG hH; go_simp; first | done | with_reducible rfl) ?_; simp only [Act.put, pA, pZ, pS])
      refine rv_det (by kernel_rfl) rfl (by intro w hG hH; obtain ⟨t0, t1, t2, t3, t4⟩ := HTY.out.kbF (HKW.out w hG); go_simp; first | done | with_reducible rfl) ?_
      simp only [Act.put, pA, pZ, pS]
      iterate 3 (refine rv_det (by kernel_rfl) rfl (by intro w hG hH; go_simp; first | done | with_reducible rfl) ?_; simp only [Act.put, pA, pZ, pS])
      refine rv_det (by kernel_rfl) rfl (by intro w hG hH; have c3 := HBX.out w hG; go_simp; first | done | with_reducible rfl) ?_
      simp only [Act.put, pA, pZ, pS]
      refine rv_det (by kernel_rfl) rfl (by intro w hG hH; go_simp; first | done | with_reducible rfl) ?_
      simp only [Act.put, pA, pZ, pS]
      refine rv_rel (by kernel_rfl) rfl ⟨_, rfl⟩ (by
       intro w hG hH
       refine opVal_call (by go_simp; first | done | exact ⟨⟨rfl, rfl⟩, rfl⟩) ?_
       refine (HL.out w (HKW.out w hG)).mono ?_
       rintro e w' ⟨rfl, hq⟩
       exact ⟨_, rfl, rfl, AV.GA.kb hq (fun _ y => y) (fun k e => by have := (HBK.out k e).2; have := hG.1.size; omega), trivial⟩) ?_
      rintro v rfl
      simp only [Act.put, pA, pZ, pS]
      refine rv_det (by kernel_rfl) rfl (by intro w hG hH; go_simp; first | done | with_reducible rfl) ?_
      simp only [Act.put, pA, pZ, pS]
      refine rv_rel (by kernel_rfl) rfl ⟨.slice none M 0, _, _, rfl⟩ (by
       intro w hG hH
       refine opVal_call (by go_simp; first | done | exact ⟨⟨rfl, rfl⟩, rfl⟩) ?_
       refine (HC.out w (HKW.out w hG)).mono ?_
       rintro e w' ⟨v, rfl, ho, hnil, hq⟩
       obtain ⟨a1, c1, e1, -⟩ := own_shape ho
       exact ⟨_, rfl, ⟨a1, c1, e1⟩, AV.GA.kb hq (fun _ y => y) (fun k e => by have := (HBK.out k e).2; have := hG.1.size; omega), ⟨own_base ho hG.1.size, hnil⟩⟩) ?_
      rintro v ⟨ma, mc, rfl⟩
      simp only [Act.put, pA, pZ, pS]
      refine rv_rel (by kernel_rfl) rfl ⟨(if M = 0 then .slice va N vc else .slice none (N + M) 0), by by_cases h : M = 0 <;> simp [h], fun h => if_pos h⟩ (fun w hG hH => by
       obtain ⟨ho2, hn2⟩ := hH (19, fun w => w.ownsRow wi.heap.size 101 6 (.slice ma M mc) M (g i) ∧ ((Value.slice ma M mc) = .slice none 0 0 ↔ M = 0)) List.mem_cons_self (by kernel_rfl)
       have hul := HOW.out.1
       have htk : (U i ++ g i).take (N * 6) = U i := by rw [← hul]; exact List.take_left
       have hold : w.ownsRow w0.heap.size 101 6 (.slice va N vc) N (U i) := by
        have := AV.GA.old (m := N) hG (by rw [htk]; exact HOW.out) (by omega)
        rwa [htk] at this
       have hsrc : AV.Src w (.slice ma M mc) M (g i) := by
        by_cases h0 : M = 0
        ·refine Or.inl ⟨hn2.2 h0, h0, List.eq_nil_of_length_eq_zero (by rw [HGL.out.1, h0])⟩
        ·rcases ho2.2 with ⟨-, h⟩ | ⟨gq, cap, cur, e, -⟩
         ·exact absurd h h0
         ·cases e
          exact Or.inr ⟨by omega, ⟨gq, 0, none⟩, mc, rfl, fun j v hj => by
           have hjl := (List.getElem?_eq_some_iff.1 hj).1
           have ej : (⟨gq, 0, none⟩ : Addr).add j = ⟨gq, j, none⟩ := by simp [Addr.add]; exact fun h => h.symm
           rw [ej, ho2.cellAt j (by rw [← ho2.1]; exact hjl)]; exact hj⟩
       have hsz := hG.1.size
       have hbs : w0.heap.size ≤ wi.heap.size := by have h1 := HB.out.2.1.size; have h2 := HK0.out.size; omega
       refine AV.opVal_imp (AV.opVal_append (P := Tryz.prog) w0.heap.size wi.heap.size hsz (.tmp 35) (.tmp 54) 98 101 rfl Tryz.infoBdd Tryz.underlying98 rfl (by decide) (.slice va N vc) N (U i) (by go_simp; first | done | rfl) hold (.slice ma M mc) M (g i) HGL.out.1 (by go_simp; first | done | rfl) hsrc HGL.out.2 (by unfold maxLen; omega) (by omega) (by omega)) ?_
       rintro v w' ⟨h1, h2, h3⟩
       obtain ⟨a1, c1, e, -⟩ := own_shape h1.1
       exact ⟨⟨⟨a1, c1, e⟩, h3⟩, h2, h1⟩) ?_
      rintro v ⟨⟨ga, gc, rfl⟩, hM0⟩
      simp only [Act.put, pA, pZ, pS]
      refine rv_nil (fun w hG hH => ?_)
      have hFA : AV.FA 6 w0.heap.size wi.heap.size 101 (.slice va N vc) (N + M) (U i ++ g i) (.slice ga (N + M) gc) w := hH (20, fun w => AV.FA 6 w0.heap.size wi.heap.size 101 (.slice va N vc) (N + M) (U i ++ g i) (.slice ga (N + M) gc) w) List.mem_cons_self
      obtain ⟨w7, rfl⟩ : ∃ x, x = w := ⟨_, rfl⟩
      have HN : Hid (KB F0 W w7 ∧ w7.ownsRow w0.heap.size 101 6 (.slice ga (N + M) gc) (N + M) (U (i + 1)) ∧ ((Value.slice ga (N + M) gc) = .slice none 0 0 ↔ N + M = 0) ∧ N + M = NB (i + 1)) := Lib.hid ⟨HK0.out.oldS hG.1 (fun k hk e => by
        have h1 := (HBK.out k e).1
        have h2 := HB.out.2.1.size
        have h3 : W.heap.size = w0.heap.size + 1 := by rw [HW.out]; simp
        omega), by rw [HUS.out]; exact hFA.1, Iff.intro (fun e => by simp only [Value.slice.injEq] at e; exact e.2.1) (fun e => by
        rw [hM0 (by omega)]; exact HNI.out.2 (by omega)), HNN.out⟩
      clear hFA hG hH hM0
      go_wp2_with fail
      go_roundg (Lf - (i + 1))
      case measure => omega
      case rel => exact ⟨i + 1, N + M, ga, gc, by omega, hNM, rfl, by go_num, rfl, HN⟩
     ·obtain rfl : i = Lf := by omega
      have dI : decide ((i : Int) < (i : Int)) = false := decide_eq_false (by omega)
      have HE : Hid (BdEnd (NB i) (U i) w0 (.returned (.slice va N vc)) wi) := Lib.hid ⟨_, rfl, by rw [← hst.out.2.2.2]; exact hst.out.2.1, by rw [← hst.out.2.2.2]; exact hst.out.2.2.1, HB.out.2.1.trans hst.out.1⟩
      clear hst hbx
      go_wp2_with fail
      go_ret
      exact HE.out
   ·have hk5 : (t.k == 5) = false := by simpa using h5
    have HR : bxF S (n + 1) t p = [] := by unfold bxF; rw [if_neg h3, if_neg h5]
    rw [HR]
    refine ⟨[], BdOk.nil wb, fun w hwb => ?_⟩
    obtain ⟨w0, rfl⟩ : ∃ w0, w0 = w := ⟨_, rfl⟩
    obtain ⟨W, hW⟩ : ∃ W, W = w0.alloc (.cells #[.int .u8 t.k, .bool t.m, .int .i64 t.r, .int .i64 t.s, .slice ta t.of.length tc] 26) := ⟨_, rfl⟩
    obtain ⟨kb, hb⟩ := boxTy w0 t ta tc
    rw [← hW] at kb hb
    have HW := Lib.hid hW
    have HB := Lib.hid kb
    have g0 : W.cell? ⟨w0.heap.size, 0, none⟩ = some (.int .u8 t.k) := blk_cell hb 0
    unfold tyV
    generalize t.k = tk at *
    generalize t.m = tm at *
    generalize t.r = tr at *
    generalize t.s = ts at *
    generalize t.of.length = tl at *
    clear ih hfin hlk hp hty hW kb hb hwb h3 h5 HR
    go_enter Tryz.func42, Tryz.ntmps42
    go_upto_region 1 with fail
    rw [← HW.out]
    go_wp2_with fail
    go_ret
    exact ⟨_, rfl, ⟨rfl, Or.inl ⟨rfl, rfl⟩⟩, by simp, HB.out⟩
end Go.Proofs.YtaeppaaolkcbbaaGreatDoor

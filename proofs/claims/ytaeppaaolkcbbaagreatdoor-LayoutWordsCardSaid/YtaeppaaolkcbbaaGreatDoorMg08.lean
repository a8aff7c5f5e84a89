/- layout.boxes, whatever is done at each box. loanwordref09.endless. loanwordref09.Structs; types.May, may. types.May, may; lists of types asked; loanwordref09.Types. layout.Boxes. -/
import Derived.Test.YtaeppaaolkcbbaaGreatDoorMg07
import Derived.Test.YtaeppaaolkcbbaaGreatDoorMg04
import Derived.Deep.DeepCutAuto
import Derived.Test.YtaeppaaolkcbbaaGreatDoorMg06
import Derived.Test.YtaeppaaolkcbbaaGreatDoorMg02
import Derived.Test.YtaeppaaolkcbbaaGreatDoorMg05
namespace Go.Proofs.YtaeppaaolkcbbaaGreatDoor
open Go.RowKit

theorem bxL_len (rec : Ty → Nat → List (Nat × Ty)) (wd : Ty → Nat) (h : ∀ f a, (rec f a).length ≤ wd f) (l : List Ty) : ∀ a, (bxL rec wd l a).length ≤ (l.map wd).sum := by
 induction l with
 | nil => intro a; exact Nat.le_refl _
 | cons f l ih =>
  intro a
  simp only [bxL, List.length_append, List.map_cons, List.sum_cons]
  have := h f a
  have := ih (a + wd f)
  omega
theorem bxF_len (S : List (List Ty)) : ∀ n t a, (bxF S n t a).length ≤ wF S n t := by
 intro n
 induction n with
 | zero => intro t a; exact Nat.zero_le _
 | succ n ih =>
  intro t a
  unfold bxF wF
  by_cases h3 : t.k = 3
  ·rw [if_pos h3, if_neg (by omega)]; exact Nat.le_refl _
  ·rw [if_neg h3]
   by_cases h5 : t.k = 5
   ·rw [if_pos h5, if_pos h5]; exact bxL_len _ _ ih _ _
   ·rw [if_neg h5]; exact Nat.zero_le _
structure StepOk (P : World → Nat → Prop) (W W' : World) : Prop where
 kb : KB (P W) W W'
 new : ∀ k, P W' k → P W k ∨ W.heap.size ≤ k
theorem StepOk.trans {P : World → Nat → Prop} {a b c : World} (h : StepOk P a b) (k : StepOk P b c) : StepOk P a c :=
 ⟨⟨k.kb.os.trans h.kb.os, k.kb.tape.trans h.kb.tape, k.kb.output.trans h.kb.output, Nat.le_trans h.kb.size k.kb.size, fun i hi hn => (k.kb.block i (Nat.lt_of_lt_of_le hi h.kb.size) (fun hp => by
  rcases h.new i hp with h1 | h1
  ·exact hn h1
  ·omega)).trans (h.kb.block i hi hn)⟩, fun q hq => by
  rcases k.new q hq with h1 | h1
  ·exact h.new q h1
  ·exact Or.inr (Nat.le_trans h.kb.size h1)⟩
structure MetOk (w00 : World) (P : World → Nat → Prop) (Inv : List (Nat × Ty) → World → Prop) : Prop where
 kb : ∀ L W, Inv L W → KB F0 w00 W
 mono : ∀ L W W', Inv L W → KB F0 W W' → Inv L W' ∧ ∀ k, P W' k → P W k ∨ W.heap.size ≤ k
 fld : ∀ L W k cs, Inv L W → W.heap[k]? = some (.cells cs 83 (0, 0)) → ¬ P W k
theorem MetOk.step {w00 : World} {P : World → Nat → Prop} {Inv : List (Nat × Ty) → World → Prop} (h : MetOk w00 P Inv) {L : List (Nat × Ty)} {W W' : World} (hi : Inv L W) (hk : KB F0 W W') : Inv L W' ∧ StepOk P W W' :=
 ⟨(h.mono L W W' hi hk).1, hk.mono (fun _ _ x => x.elim), (h.mono L W W' hi hk).2⟩
def BoxStep (w00 : World) (S : List (List Ty)) (g : FuncId) (cap : Array Value) (P : World → Nat → Prop) (Inv : List (Nat × Ty) → World → Prop) : Prop :=
 ∀ (L : List (Nat × Ty)) (p : Nat) (u : Ty) (ua : Option Addr) (uc : Nat) (W : World), p ≤ 100 → L.length ≤ 200 → Inv L W → lookB S.length 47 u = true → TyAt 48 w00 u ua uc →
  Calls Tryz.prog g (#[.int .i64 (p : Nat), tyV u ua uc] ++ cap) W fun e W' => e = .returned (.tuple #[]) ∧ Inv (L ++ [(p, u)]) W' ∧ StepOk P W W'
set_option maxRecDepth 100000 in
set_option maxHeartbeats 32000000 in
theorem lyboxes_any {S : List (List Ty)} (hg : GoodS S) (a : Option Addr) (c : Nat) (w00 : World) (hS : StsAt 49 w00 a S) (g : FuncId) (cap : Array Value) (P : World → Nat → Prop) (Inv : List (Nat × Ty) → World → Prop)
  (hen : ∀ args W, (callFunc g args).run Tryz.prog W = .ok (.enter g args) W) (hM : MetOk w00 P Inv) (hB : BoxStep w00 S g cap P Inv) : ∀ (n : Nat) (t : Ty) (ta : Option Addr) (tc p : Nat) (L : List (Nat × Ty)) (w : World),
  FinD S n t → lookB S.length 48 t = true → p + wF S n t ≤ 100 → L.length + wF S n t ≤ 200 → TyAt 49 w00 t ta tc → Inv L w →
  Calls Tryz.prog 39 #[.slice a S.length c, tyV t ta tc, .int .i64 (p : Nat), .func (.func g) #[] cap] w fun e w' => e = .returned (.tuple #[]) ∧ Inv (L ++ bxF S n t p) w' ∧ StepOk P w w' := by
 intro n
 induction n with
 | zero => intro t ta tc p L w h; exact h.elim
 | succ n ih =>
  intro t ta tc p L w hfin hlk hp hLl hty hinv
  obtain ⟨w0, rfl⟩ : ∃ w0, w0 = w := ⟨_, rfl⟩
  obtain ⟨W, hW⟩ : ∃ W, W = w0.alloc (.cells #[.int .u8 t.k, .bool t.m, .int .i64 t.r, .int .i64 t.s, .slice ta t.of.length tc] 26) := ⟨_, rfl⟩
  obtain ⟨kb, hb⟩ := boxTy w0 t ta tc
  rw [← hW] at kb hb
  obtain ⟨hinv1, hst1⟩ := hM.step hinv kb
  have HW := Lib.hid hW
  have HB := Lib.hid (And.intro kb (And.intro hb (And.intro hinv1 (And.intro hst1 hty))))
  have g0 : W.cell? ⟨w0.heap.size, 0, none⟩ = some (.int .u8 t.k) := blk_cell hb 0
  have g3 : W.cell? ⟨w0.heap.size, 3, none⟩ = some (.int .i64 t.s) := blk_cell hb 3
  have g4 : W.cell? ⟨w0.heap.size, 4, none⟩ = some (.slice ta t.of.length tc) := blk_cell hb 4
  clear kb hb hW hinv1 hst1 hty hinv
  by_cases h3 : t.k = 3
  ·obtain ⟨hl1, hlk0⟩ := look_box hlk h3
   obtain ⟨b, o, ua, uc, rfl, hc, hu⟩ := HB.out.2.2.2.2.in0 (by omega)
   have hcW := hc.kbF (hM.kb _ _ HB.out.2.2.1)
   have ST := Lib.hid (hB L p (in0 t) ua uc W (by omega) (by omega) HB.out.2.2.1 hlk0 hu)
   have HR : Hid (bxF S (n + 1) t p = [(p, in0 t)]) := Lib.hid (by unfold bxF; rw [if_pos h3])
   have hty0 := HB.out.2.2.2.2.1
   rw [hl1] at g4 HW hty0
   rw [h3] at g0 HW
   unfold tyV
   rw [h3, hl1, HR.out]
   obtain ⟨i0, i1, i2, i3, i4⟩ := hcW
   unfold tyV at ST
   have hen2 := hen
   generalize in0 t = u at i0 i1 i2 i3 i4 ST ⊢
   generalize t.m = tm at HW ⊢
   generalize t.r = tr at HW ⊢
   generalize t.s = ts at g3 HW ⊢
   have hSt := HB.out.2.2.2.1
   have HSt := Lib.hid hSt
   clear hc hu hfin hlk hLl hlk0 hl1 h3 ih hSt HR
   go_enter Tryz.func39, Tryz.ntmps39
   go_upto_region 1 with fail
   rw [← HW.out]
   go_wp2_with fail
   refine ST.out.mono ?_
   rintro e w5 ⟨rfl, hi5, hs5⟩
   have H5 := Lib.hid (And.intro hi5 (HSt.out.trans hs5))
   clear hi5 hs5
   go_wp2_with fail
   go_end0
   exact ⟨rfl, H5.out.1, H5.out.2⟩
  ·have hk3 : (t.k == 3) = false := by simpa using h3
   by_cases h5 : t.k = 5
   ·have hin := look_inT hlk
    obtain ⟨u, hu⟩ : ∃ u : Nat, t.s = (u : Int) := ⟨t.s.toNat, by have := hin h5; omega⟩
    have hun : t.s.toNat = u := by omega
    have huL : u < S.length := by have := hin h5; omega
    have huI : (u : Int) < (S.length : Int) := by omega
    obtain ⟨sb, so, snm, sfa, sfc, rfl, -, hsl0, hsc, hfd⟩ := hS u huL
    have hsl := (hM.kb _ _ HB.out.2.2.1).cell (p := ⟨sb, so + u * 2 + 1, none⟩) (fun x => x) hsl0
    obtain ⟨F, hF⟩ : ∃ F, F = S.getD u [] := ⟨_, rfl⟩
    rw [← hF] at hsl hsc hfd
    obtain ⟨Lf, hLf⟩ : ∃ L, L = F.length := ⟨_, rfl⟩
    rw [← hLf] at hsl hsc
    have hLu : Lf = (fds S u).length := by rw [hLf, hF]; rfl
    have hLf8 : Lf ≤ 8 := by rw [hLu]; exact hg.len8 u
    have HF : Hid (∀ i, i < Lf → FinD S n ((fds S u).getD i ty0) ∧ InT S ((fds S u).getD i ty0) ∧ lookB S.length 48 ((fds S u).getD i ty0) = true) := Lib.hid (fun i hi => by
     have hm := fds_mem (S := S) (u := u) (i := i) (by omega)
     exact ⟨hfin h5 _ (by rw [hun]; exact hm), hg.inR.inT hm, hg.look hm⟩)
    have HU := Lib.hid (And.intro hF (And.intro hLf (And.intro hsc (And.intro hfd hLu))))
    have HR : Hid (bxF S (n + 1) t p = bxL (bxF S n) (wF S n) (fds S u) p) := Lib.hid (by unfold bxF; rw [if_neg h3, if_pos h5, hun])
    have hTot : p + wsum S n u Lf ≤ 100 := by rw [wF_struct h5, hun, ← hLu] at hp; exact hp
    have hTotL : L.length + wsum S n u Lf ≤ 200 := by rw [wF_struct h5, hun, ← hLu] at hLl; exact hLl
    have hsum : ∀ i, i < Lf → wsum S n u (i + 1) = wsum S n u i + wF S n ((fds S u).getD i ty0) := fun i hi => wsum_succ (by omega)
    have hle : ∀ i, wsum S n u i ≤ wsum S n u Lf := fun i => by rw [hLu]; exact wsum_le
    have IH := Lib.hid (fun (i : Nat) (hi : i < Lf) (fa' : Option Addr) (fc' : Nat) (L' : List (Nat × Ty)) (V : World) (hV : Inv L' V) (hLl' : L'.length ≤ L.length + wsum S n u i) (ht : TyAt 49 w00 ((fds S u).getD i ty0) fa' fc') =>
     ih ((fds S u).getD i ty0) fa' fc' (p + wsum S n u i) L' V (HF.out i hi).1 (HF.out i hi).2.2 (by have := hsum i hi; have := hle (i + 1); omega) (by have := hsum i hi; have := hle (i + 1); omega) ht hV)
    have WD := Lib.hid (fun (i : Nat) (hi : i < Lf) (fa' : Option Addr) (fc' : Nat) (L' : List (Nat × Ty)) (V : World) (hV : Inv L' V) =>
     lywords_any S hg.inR hg.len (fun i => Nat.le_trans (hg.len8 i) (by omega)) (fun n t hf hi => hg.w16 n t hf hi) 49 (some ⟨sb, so, none⟩) c n ((fds S u).getD i ty0) fa' fc' V (HF.out i hi).1 (HF.out i hi).2.1 (hS.kbF (hM.kb _ _ hV)))
    have HSum := Lib.hid (And.intro hsum (And.intro hle hTot))
    have HM := Lib.hid hM
    rw [hu] at g3 HW
    rw [h5] at g0 HW
    unfold tyV
    rw [h5, hu, HR.out]
    generalize t.m = tm at HW ⊢
    generalize t.r = tr at HW ⊢
    generalize t.of.length = tl at g4 HW ⊢
    have HStep := Lib.hid (fun (i : Nat) (hi : i < Lf) => bxL_step (bxF S n) (wF S n) (l := fds S u) (i := i) (by omega) p)
    have HFull : Hid ((fds S u).take Lf = fds S u) := Lib.hid (by rw [hLu]; exact List.take_length)
    have HI0 := Lib.hid (And.intro HB.out.2.2.1 HB.out.2.2.2.1)
    clear hfin hlk hp hLl hTotL h3 h5 ih hS hB hsl0 hsc hfd hF hLf hLu hun hu hin hsum hle hTot hg huL hM
    go_enter Tryz.func39, Tryz.ntmps39
    go_upto_region 1 with fail
    rw [← HW.out]
    go_wp2_with fail
    go_loopg [30, 2] Lf (fun gg iv pv wr => ∃ i, i ≤ Lf ∧ gg = Lf - i ∧ iv = .int .i64 (i : Nat) ∧ pv = .int .i64 (p + wsum S n u i : Nat) ∧ Hid (Inv (L ++ bxL (bxF S n) (wF S n) ((fds S u).take i) p) wr ∧ StepOk P w0 wr))
    case atStart => exact ⟨0, by omega, by omega, rfl, by rw [wsum_zero]; rfl, Lib.hid ⟨by simpa [bxL] using HI0.out.1, HI0.out.2⟩⟩
    case round =>
     obtain ⟨i, hi, rfl, rfl, rfl, hkw⟩ := hrel
     obtain ⟨wi, rfl⟩ : ∃ w, w = wr := ⟨_, rfl⟩
     by_cases hlt : i < Lf
     ·have hiI : (i : Int) < (Lf : Int) := by omega
      have dI : decide ((i : Int) < (Lf : Int)) = true := decide_eq_true hiI
      obtain ⟨fb, fo, fnm, fa', fc', rfl, hnm, hty, hta⟩ := HU.out.2.2.2.1 i (by rw [← HU.out.2.1]; exact hlt)
      have hk0 := HM.out.kb _ _ hkw.out.1
      have n0 := hk0.cell (p := ⟨fb, fo + i * 6, none⟩) (fun x => x) hnm
      obtain ⟨t0, t1, t2, t3, t4⟩ := hty.kbF hk0
      have hFi : F.getD i ty0 = (fds S u).getD i ty0 := by rw [HU.out.1]; rfl
      rw [hFi] at t0 t1 t2 t3 t4 hta
      have IHi := Lib.hid (IH.out i hlt fa' fc')
      have WDi := Lib.hid (WD.out i hlt fa' fc')
      have HTA := Lib.hid hta
      have HLn : Hid ((L ++ bxL (bxF S n) (wF S n) ((fds S u).take i) p).length ≤ L.length + wsum S n u i) := Lib.hid (by rw [List.length_append]; have := bxL_len (bxF S n) (wF S n) (bxF_len S n) ((fds S u).take i) p; rw [List.map_take] at this; unfold wsum; omega)
      have hsu := HSum.out.1 i hlt
      have hs1 := HSum.out.2.1 (i + 1)
      have hs2 := HSum.out.2.2
      have HSt := HStep.out i hlt
      obtain ⟨f, hf⟩ : ∃ f, f = (fds S u).getD i ty0 := ⟨_, rfl⟩
      rw [show ((fds S u).map (wF S n)).take i = ((fds S u).map (wF S n)).take i from rfl] at HSt
      rw [← hf] at t0 t1 t2 t3 t4 IHi WDi HTA hsu HSt
      have HSt2 : Hid (bxL (bxF S n) (wF S n) ((fds S u).take (i + 1)) p = bxL (bxF S n) (wF S n) ((fds S u).take i) p ++ bxF S n f (p + wsum S n u i)) := Lib.hid HSt
      obtain ⟨x, hx⟩ : ∃ x, x = wF S n f := ⟨_, rfl⟩
      rw [← hx] at WDi hsu
      unfold tyV at IHi WDi
      obtain ⟨s, hs⟩ : ∃ s, s = p + wsum S n u i := ⟨_, rfl⟩
      rw [← hs] at IHi HSt2 ⊢
      have hsx : s + x ≤ 100 := by omega
      have HN : Hid (p + wsum S n u (i + 1) = s + x) := Lib.hid (by omega)
      have ka := (KB.refl F0 wi).alloc (.cells #[.string fnm, .int .u8 f.k, .bool f.m, .int .i64 f.r, .int .i64 f.s, .slice fa' f.of.length fc'] 83)
      obtain ⟨hia, hsa⟩ := HM.out.step hkw.out.1 ka
      have HNP := Lib.hid (HM.out.fld _ _ _ _ hia (alloc_new wi (.cells #[.string fnm, .int .u8 f.k, .bool f.m, .int .i64 f.r, .int .i64 f.s, .slice fa' f.of.length fc'] 83)))
      have KA := Lib.hid (And.intro hia (And.intro (hkw.out.2.trans hsa) (And.intro HTA.out (alloc_new wi (.cells #[.string fnm, .int .u8 f.k, .bool f.m, .int .i64 f.r, .int .i64 f.s, .slice fa' f.of.length fc'] 83)))))
      have hwr : IntKind.i64.wrap ((s : Int) + (x : Int)) = ((s + x : Nat) : Int) := by rw [w64 (by omega) (by omega)]; omega
      clear ka hia hsa hnm hty hta hFi hsu hs1 hs2 HSt hx hs hk0
      generalize f.k = fk at *
      generalize f.m = fm at *
      generalize f.r = fr at *
      generalize f.s = fs at *
      generalize f.of.length = Nf at *
      go_wp2_with fail
      refine (IHi.out _ _ KA.out.1 HLn.out KA.out.2.2.1).mono ?_
      rintro e w5 ⟨rfl, hi5, hs5⟩
      have hb9 := hs5.kb.heap HNP.out KA.out.2.2.2
      have q0 := blk_cell hb9 0
      have q1 := blk_cell hb9 1
      have q2 := blk_cell hb9 2
      have q3 := blk_cell hb9 3
      have q4 := blk_cell hb9 4
      have q5 := blk_cell hb9 5
      have K5 := Lib.hid (And.intro hi5 (KA.out.2.1.trans hs5))
      clear hi5 hs5 hb9 n0 t0 t1 t2 t3 t4
      simp at q0 q1 q2 q3 q4 q5
      go_wp2_with fail
      refine (WDi.out _ w5 K5.out.1).mono ?_
      rintro e w6 ⟨rfl, k6⟩
      obtain ⟨hi6, hs6⟩ := HM.out.step K5.out.1 k6
      have K6 : Hid (Inv (L ++ bxL (bxF S n) (wF S n) ((fds S u).take (i + 1)) p) w6 ∧ StepOk P w0 w6) := Lib.hid ⟨by rw [HSt2.out, ← List.append_assoc]; exact hi6, K5.out.2.trans hs6⟩
      clear hi6 hs6 k6 q0 q1 q2 q3 q4 q5
      go_wp2_with fail
      go_roundg (Lf - (i + 1))
      case measure => omega
      case rel => exact ⟨i + 1, by omega, rfl, by go_num, by rw [HN.out]; first | rfl | go_num, K6⟩
     ·obtain rfl : i = Lf := by omega
      have dI : decide ((i : Int) < (i : Int)) = false := decide_eq_false (by omega)
      have HI : Hid (Inv (L ++ bxL (bxF S n) (wF S n) (fds S u) p) wi ∧ StepOk P w0 wi) := Lib.hid (by have := hkw.out; rw [HFull.out] at this; exact this)
      go_wp2_with fail
      go_end0
      exact ⟨rfl, HI.out.1, HI.out.2⟩
   ·have hk5 : (t.k == 5) = false := by simpa using h5
    have HR : Hid (bxF S (n + 1) t p = []) := Lib.hid (by unfold bxF; rw [if_neg h3, if_neg h5])
    unfold tyV
    rw [HR.out, List.append_nil]
    have HI := Lib.hid (And.intro HB.out.2.2.1 HB.out.2.2.2.1)
    generalize t.k = tk at g0 HW hk3 hk5 ⊢
    generalize t.m = tm at HW ⊢
    generalize t.r = tr at HW ⊢
    generalize t.s = ts at g3 HW ⊢
    generalize t.of.length = tl at g4 HW ⊢
    clear h3 h5 hfin hlk hp hLl ih hS hB hg HB hM
    go_enter Tryz.func39, Tryz.ntmps39
    go_upto_region 1 with fail
    rw [← HW.out]
    go_wp2_with fail
    go_end0
    exact ⟨rfl, HI.out.1, HI.out.2⟩

structure RdSt' (S : List (List Ty)) (n : Nat) (w0 : World) (X : Nat) (wr : World) (A M : List Bool) (b : Nat) : Prop where
 kb : KB F0 w0 wr
 lo : w0.heap.size ≤ X
 arr : ArrAt wr X M
 met : Met S n M
 grow : Grow A M
 done : ∀ u, u < b → (u = n ∨ atB A u = true) → ∀ f ∈ fds S u, f.k = 5 → atB M f.s.toNat = true
theorem RdSt'.set {S : List (List Ty)} (hS : InR S) (h32 : S.length ≤ 32) {n : Nat} {w0 : World} {X : Nat} {wr : World} {A M : List Bool} {b i j : Nat} (h : RdSt' S n w0 X wr A M b) (hb : b = n ∨ atB M b = true)
  (hi : i < (fds S b).length) (hf : ((fds S b).getD i ty0).k = 5) (hj : ((fds S b).getD i ty0).s.toNat = j) : RdSt' S n w0 X (wr.setCell ⟨X, j, none⟩ (.bool true)) A (M.set j true) b := by
 have hm : (fds S b).getD i ty0 ∈ fds S b := by rw [List.getD_eq_getElem?_getD, List.getElem?_eq_getElem hi]; exact List.getElem_mem hi
 have hjl : j < S.length := hj ▸ hS.lt hm hf
 have hjM : j < M.length := by rw [h.met.len]; omega
 have hr : Rch S n j := by
  rcases hb with rfl | hb
  ·exact hj ▸ Rch.one hm hf
  ·exact hj ▸ Rch.more (h.met.ok b hb) hm hf
 refine ⟨h.kb.oldS (kb_set wr X j (.bool true)) (fun k hk e => by have := h.lo; omega), h.lo, h.arr.set j, h.met.set (by omega) hr, h.grow.set hjM, fun u hu hh f hf hk => ?_⟩
 rw [atB_set hjM, h.done u hu hh f hf hk]; rfl
theorem RdSt'.next {S : List (List Ty)} {n : Nat} {w0 : World} {X : Nat} {wr : World} {A M : List Bool} {b : Nat} (h : RdSt' S n w0 X wr A M b)
  (hd : (b = n ∨ atB M b = true) → ∀ i, i < (fds S b).length → ((fds S b).getD i ty0).k = 5 → atB M ((fds S b).getD i ty0).s.toNat = true) : RdSt' S n w0 X wr A M (b + 1) := by
 refine ⟨h.kb, h.lo, h.arr, h.met, h.grow, fun u hu hh f hf hk => ?_⟩
 rcases Nat.lt_or_eq_of_le (Nat.lt_succ_iff.1 hu) with h1 | rfl
 ·exact h.done u h1 hh f hf hk
 ·obtain ⟨i, hi, rfl⟩ := List.getElem_of_mem hf
  have := hd (hh.imp id (h.grow.2.2 u)) i hi
  rw [List.getD_eq_getElem?_getD, List.getElem?_eq_getElem hi] at this
  exact this hk

theorem sB1_of {S : List (List Ty)} {i : Nat} (h1 : ¬ (fds S i).length < 1) (h8 : ¬ 8 < (fds S i).length) (h : ∀ q, q < (fds S i).length → badF S.length ((fds S i).getD q ty0) = false) : sB1 S i = false := by
 unfold sB1
 rw [decide_eq_false h1, decide_eq_false h8, any_none (d := ty0) h]; rfl
theorem not_good1 {S : List (List Ty)} {i : Nat} (hi : i < S.length) (h : sB1 S i = true) : ¬ GoodS S := fun hg => by rw [hg.b1 i hi] at h; cases h

def MayT (S : List (List Ty)) (t : Ty) : Prop := GoodS S ∧ lookB S.length 48 t = true
def BoolEnd (P : Prop) (w : World) (e : Ending) (w' : World) : Prop := ∃ ok : Bool, e = .returned (.bool ok) ∧ (ok = true ↔ P) ∧ KB F0 w w'
set_option maxRecDepth 100000 in
set_option maxHeartbeats 16000000 in
theorem tyMay_any (S : List (List Ty)) (hn : S.length ≤ 1000000) (hl : ∀ i, (fds S i).length ≤ 1000000) (a : Option Addr) (c : Nat) (hc : S.length ≤ c) (t : Ty) (ta : Option Addr) (tc : Nat) (w : World) (h : StsAt 49 w a S) (ht : TyAt 49 w t ta tc) :
  Calls Tryz.prog 30 #[.slice a S.length c, tyV t ta tc] w (BoolEnd (MayT S t) w) := by
 obtain ⟨w0, rfl⟩ : ∃ w0, w0 = w := ⟨_, rfl⟩
 obtain ⟨W, hW⟩ : ∃ W, W = w0.alloc (.cells #[.int .u8 t.k, .bool t.m, .int .i64 t.r, .int .i64 t.s, .slice ta t.of.length tc] 26) := ⟨_, rfl⟩
 obtain ⟨kb, hb⟩ := boxTy w0 t ta tc
 rw [← hW] at kb hb
 obtain ⟨c0, c1, c2, c3, c4⟩ := TyCells.of_block hb
 simp only [Nat.zero_add] at c0 c1 c2 c3 c4
 have ST := Lib.hid (tyStructs_any S hn hl a c hc W (h.kbF kb))
 have LK := Lib.hid (fun (V : World) (hk : KB F0 W V) => look_any S.length 48 (by omega) t ta tc V (ht.kbF (kb.trans hk)))
 obtain ⟨q, hq⟩ : ∃ q, q = lookB S.length 48 t := ⟨_, rfl⟩
 have HP : Hid (MayT S t = (GoodS S ∧ q = true)) := Lib.hid (by rw [hq]; rfl)
 rw [← hq] at LK
 rw [HP.out]
 have HW := Lib.hid hW
 have HK := Lib.hid kb
 unfold tyV at LK ⊢
 generalize S.length = n at *
 clear h ht hb hW hq HP kb
 obtain ⟨fk, hfk⟩ : ∃ x, x = t.k := ⟨_, rfl⟩
 rw [← hfk] at c0 LK HW ⊢
 obtain ⟨fm, hfm⟩ : ∃ x, x = t.m := ⟨_, rfl⟩
 rw [← hfm] at c1 LK HW ⊢
 obtain ⟨fr, hfr⟩ : ∃ x, x = t.r := ⟨_, rfl⟩
 rw [← hfr] at c2 LK HW ⊢
 obtain ⟨fs, hfs⟩ : ∃ x, x = t.s := ⟨_, rfl⟩
 rw [← hfs] at c3 LK HW ⊢
 obtain ⟨N, hN⟩ : ∃ x, x = t.of.length := ⟨_, rfl⟩
 rw [← hN] at c4 LK HW ⊢
 clear hfk hfm hfr hfs hN
 go_enter Tryz.func30, Tryz.ntmps30
 go_upto_region 1 with fail
 rw [← HW.out]
 go_wp2_with fail
 refine ST.out.mono ?_
 rintro e w1 ⟨at_, ok, rfl, hE, k1⟩
 have HE := Lib.hid hE.good
 have K1 := Lib.hid k1
 have d0 := k1.cell (p := ⟨w0.heap.size, 0, none⟩) (fun x => x) c0
 have d1 := k1.cell (p := ⟨w0.heap.size, 1, none⟩) (fun x => x) c1
 have d2 := k1.cell (p := ⟨w0.heap.size, 2, none⟩) (fun x => x) c2
 have d3 := k1.cell (p := ⟨w0.heap.size, 3, none⟩) (fun x => x) c3
 have d4 := k1.cell (p := ⟨w0.heap.size, 4, none⟩) (fun x => x) c4
 clear k1 hE c0 c1 c2 c3 c4
 cases ok with
 | false =>
  simp only [stErr]
  go_wp2_with fail
  go_ret
  exact ⟨false, rfl, ⟨fun h => (by cases h), fun h => by have := HE.out.2 h.1; cases this⟩, HK.out.trans K1.out⟩
 | true =>
  simp only [stErr]
  go_wp2_with fail
  refine (LK.out _ K1.out).mono ?_
  rintro e w2 ⟨rfl, k2⟩
  have K2 := Lib.hid k2
  clear k2 d0 d1 d2 d3 d4
  go_wp2_with fail
  go_ret
  exact ⟨q, rfl, ⟨fun h => ⟨HE.out.1 trivial, h⟩, fun h => h.2⟩, HK.out.trans (K1.out.trans K2.out)⟩
set_option maxRecDepth 100000 in
set_option maxHeartbeats 16000000 in
theorem tymay_any (t : Ty) (ta : Option Addr) (tc : Nat) (w : World) (ht : TyAt 49 w t ta tc) :
  Calls Tryz.prog 109 #[tyV t ta tc] w fun e w' => e = .returned (.bool (lookB 32 48 t)) ∧ KB F0 w w' := by
 obtain ⟨w0, rfl⟩ : ∃ w0, w0 = w := ⟨_, rfl⟩
 obtain ⟨W, hW⟩ : ∃ W, W = w0.alloc (.cells #[.int .u8 t.k, .bool t.m, .int .i64 t.r, .int .i64 t.s, .slice ta t.of.length tc] 26) := ⟨_, rfl⟩
 obtain ⟨kb, hb⟩ := boxTy w0 t ta tc
 rw [← hW] at kb hb
 obtain ⟨c0, c1, c2, c3, c4⟩ := TyCells.of_block hb
 simp only [Nat.zero_add] at c0 c1 c2 c3 c4
 have LK := Lib.hid (look_any 32 48 (by omega) t ta tc W (ht.kbF kb))
 generalize lookB 32 48 t = q at *
 have HW := Lib.hid hW
 have HK := Lib.hid kb
 unfold tyV at LK ⊢
 clear ht hb hW kb
 obtain ⟨fk, hfk⟩ : ∃ x, x = t.k := ⟨_, rfl⟩
 rw [← hfk] at c0 LK HW ⊢
 obtain ⟨fm, hfm⟩ : ∃ x, x = t.m := ⟨_, rfl⟩
 rw [← hfm] at c1 LK HW ⊢
 obtain ⟨fr, hfr⟩ : ∃ x, x = t.r := ⟨_, rfl⟩
 rw [← hfr] at c2 LK HW ⊢
 obtain ⟨fs, hfs⟩ : ∃ x, x = t.s := ⟨_, rfl⟩
 rw [← hfs] at c3 LK HW ⊢
 obtain ⟨N, hN⟩ : ∃ x, x = t.of.length := ⟨_, rfl⟩
 rw [← hN] at c4 LK HW ⊢
 clear hfk hfm hfr hfs hN
 go_enter Tryz.func109, Tryz.ntmps109
 go_upto_region 1 with fail
 rw [← HW.out]
 go_wp2_with fail
 refine LK.out.mono ?_
 rintro e w1 ⟨rfl, k1⟩
 have K1 := Lib.hid k1
 clear k1 c0 c1 c2 c3 c4
 go_wp2_with fail
 go_ret
 exact ⟨rfl, HK.out.trans K1.out⟩
def AllT (S : List (List Ty)) (l : List Ty) : Prop := GoodS S ∧ ∀ t ∈ l, lookB S.length 48 t = true

def atsI (L : List (Nat × Ty)) : List Int := L.map fun q => (q.1 : Int)
def BxInv (w00 : World) (X : Nat) (L : List (Nat × Ty)) (W : World) : Prop := ∃ v, RegAt w00 W X (atsI L) v
def BxP (X : Nat) (W : World) (k : Nat) : Prop := k = X ∨ ∃ cs, W.heap[k]? = some (.cells cs 3 (0, 0))
theorem bx_met (w00 : World) (X : Nat) : MetOk w00 (BxP X) (BxInv w00 X) where
 kb := fun L W ⟨v, h⟩ => h.kb
 mono := fun L W W' ⟨v, h⟩ hk => ⟨⟨v, h.kb.trans hk, h.lo, hk.heap (fun x => x) h.cell, own_kb h.own hk (fun _ _ x => x)⟩, fun k hp => by
  by_cases hlt : k < W.heap.size
  ·refine Or.inl ?_
   rcases hp with rfl | ⟨cs, hp⟩
   ·exact Or.inl rfl
   ·exact Or.inr ⟨cs, by rw [← hk.block k hlt (fun x => x)]; exact hp⟩
  ·exact Or.inr (by omega)⟩
 fld := fun L W k cs ⟨v, h⟩ hc hp => by
  rcases hp with rfl | ⟨cs2, hp⟩
  ·rw [h.cell] at hc
   simp only [Option.some.injEq, Obj.cells.injEq] at hc
   exact absurd hc.2.1 (by decide)
  ·rw [hp] at hc
   simp only [Option.some.injEq, Obj.cells.injEq] at hc
   exact absurd hc.2.1 (by decide)
set_option maxRecDepth 100000 in
set_option maxHeartbeats 8000000 in
theorem bx_step (S : List (List Ty)) (w00 : World) (X : Nat) : BoxStep w00 S 40 #[.pointer (some ⟨X, 0, none⟩)] (BxP X) (fun L W => BxInv w00 X L W) := by
 intro L p u ua uc w hp hL hinv hlk hu
 obtain ⟨v, hR⟩ := hinv
 obtain ⟨xs, hxs⟩ : ∃ xs, xs = atsI L := ⟨_, rfl⟩
 have hxl : xs.length ≤ 200 := by rw [hxs]; simpa [atsI] using hL
 rw [← hxs] at hR
 have HE1 : Hid (atsI (L ++ [(p, u)]) = xs ++ [(p : Int)]) := Lib.hid (by rw [hxs]; simp [atsI])
 obtain ⟨N, hN⟩ : ∃ N, N = xs.length := ⟨_, rfl⟩
 obtain ⟨w0, rfl⟩ : ∃ w0, w0 = w := ⟨_, rfl⟩
 obtain ⟨W, hW⟩ : ∃ W, W = w0.alloc (.cells #[.int .u8 u.k, .bool u.m, .int .i64 u.r, .int .i64 u.s, .slice ua u.of.length uc] 26) := ⟨_, rfl⟩
 obtain ⟨kb, hb⟩ := boxTy w0 u ua uc
 rw [← hW] at kb hb
 have hR1 : RegAt w00 W X xs v := ⟨hR.kb.trans kb, hR.lo, kb.heap (fun x => x) hR.cell, own_kb hR.own kb (fun _ _ x => x)⟩
 have x0 : W.cell? ⟨X, 0, none⟩ = some v := blk_cell hR1.cell 0
 have HR := Lib.hid (And.intro hR1 (And.intro hN (And.intro kb hR)))
 have HW := Lib.hid hW
 have hz := hR1.kb.size
 rw [← hN] at hxl
 clear hN hR hR1 hxs hb hL hlk hu hW kb
 unfold tyV
 go_enter Tryz.func40, Tryz.ntmps40
 go_upto_region 1 with fail
 rw [← HW.out]
 go_wp2_with (at_builtin; refine Stopped.out ?_)
 refine ⟨?_⟩
 have hkW := HR.out.2.2.1
 have kA : KB F0 W (W.alloc (.cells #[.int .i64 (p : Nat)] 3)) := (KB.refl _ _).alloc _
 have hnb := alloc_new W (.cells #[.int .i64 (p : Nat)] 3)
 obtain ⟨W2, hW2⟩ : ∃ W2, W2 = W.alloc (.cells #[.int .i64 (p : Nat)] 3) := ⟨_, rfl⟩
 rw [← hW2] at kA hnb ⊢
 have hown := own_kb HR.out.1.own kA (fun _ _ x => x)
 have hX := kA.heap (fun x => x) HR.out.1.cell
 rw [← HR.out.2.1] at hown
 have HA := Lib.hid (And.intro kA (And.intro hown hX))
 have hs2 := kA.size
 clear kA hW2
 refine app1 40 3 w00.heap.size (.int .i64 (p : Nat)) Tryz.infoIntV Tryz.underlying40 rfl hown rfl rfl rfl rfl (blk_cell hnb 0) rfl (by unfold maxLen; omega) (by omega) (by omega) ?_
 intro v' w' hown' hgr
 have hne : ∀ {u : Value} {n : Nat} {ys : List Value} {V : World} {g : Nat} {c : Array Value}, V.heap[g]? = some (.cells c 40 (0, 0)) → V.ownsRow w00.heap.size 3 1 u n ys → u.ownBlock ≠ some g := fun h1 h2 e => by
  obtain ⟨c1, h3, -⟩ := own_block h2 e
  rw [h1] at h3
  simp only [Option.some.injEq, Obj.cells.injEq] at h3
  exact absurd h3.2.1 (by decide)
 have hX2 : w'.heap[X]? = some (.cells #[v] 40 (0, 0)) := by
  rw [hgr.block X (heap_lt hX) (fun e => hne hX hown e.symm)]; exact hX
 have y0 : w'.cell? ⟨X, 0, none⟩ = some v := blk_cell hX2 0
 have y0f := blk_frozen hX2 0
 have kF : KB F0 w00 w' := (HR.out.1.kb.trans HA.out.1).grown hgr (fun k e h => by
  obtain ⟨c1, h1, h2⟩ := own_block hown e
  omega)
 obtain ⟨va, vc, e2⟩ : ∃ a c, v' = .slice a (N + 1) c := by
  obtain ⟨a, c, e, -⟩ := own_shape hown'
  exact ⟨a, c, e⟩
 subst e2
 have HE : Hid (RegAt w00 (w'.setCell ⟨X, 0, none⟩ (.slice va (N + 1) vc)) X (xs ++ [(p : Int)]) (.slice va (N + 1) vc)) := Lib.hid (by
  refine ⟨kF.setCell (p := ⟨X, 0, none⟩) (fun (h : X < w00.heap.size) => absurd h (by have := HR.out.1.lo; omega)) _, HR.out.1.lo, setCell_blk (i := 0) hX2 _, ?_⟩
  have h1 := own_kb hown' (kb_set w' X 0 (.slice va (N + 1) vc)) (fun g e1 e2 => by subst e2; exact hne hX2 hown' e1)
  rw [List.length_append, show intsV (xs ++ [(p : Int)]) = intsV xs ++ [.int .i64 p] by simp [intsV], ← HR.out.2.1]
  exact h1)
 have HS : Hid (StepOk (BxP X) w0 (w'.setCell ⟨X, 0, none⟩ (.slice va (N + 1) vc))) := Lib.hid (by
  have h0 := HR.out.2.2.2
  have hsz := hkW.size
  have k1 : KB (BxP X w0) w0 W2 := (hkW.trans HA.out.1).mono (fun _ _ x => x.elim)
  have hrow : ∀ k, v.ownBlock = some k → k < w0.heap.size → ∃ cs, w0.heap[k]? = some (.cells cs 3 (0, 0)) := fun k e _ => by
   obtain ⟨c1, h1, -⟩ := own_block h0.own e
   exact ⟨c1, h1⟩
  have k2 : KB (BxP X w0) w0 w' := k1.grown hgr (fun k e h => Or.inr (hrow k e h))
  refine ⟨k2.setCell (p := ⟨X, 0, none⟩) (fun _ => Or.inl rfl) _, fun k hk => ?_⟩
  rcases hk with rfl | ⟨cs, hk⟩
  ·exact Or.inl (Or.inl rfl)
  by_cases hlt : k < w0.heap.size
  ·refine Or.inl ?_
   by_cases hkX : k = X
   ·exact Or.inl hkX
   ·have e3 := (kb_set w' X 0 (.slice va (N + 1) vc)).block k (by have := k2.size; omega) hkX
    rw [e3] at hk
    by_cases hko : v.ownBlock = some k
    ·exact Or.inr (hrow k hko hlt)
    ·refine Or.inr ⟨cs, ?_⟩
     rw [hgr.block k (by have := k1.size; omega) (fun e => hko e.symm)] at hk
     rw [(hkW.trans HA.out.1).block k hlt (fun x => x)] at hk
     exact hk
  ·exact Or.inr (by omega))
 clear hown' hgr hX2 x0 kF hown hX hnb hkW
 go_wp2_with fail
 go_end0
 exact ⟨rfl, ⟨_, by rw [HE1.out]; exact HE.out⟩, HS.out⟩
end Go.Proofs.YtaeppaaolkcbbaaGreatDoor

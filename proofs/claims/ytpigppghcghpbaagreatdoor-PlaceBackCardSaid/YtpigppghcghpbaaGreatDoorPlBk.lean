/- loanwordlaw09.PlaceBack. -/
import Derived.Test.YtpigppghcghpbaaGreatDoorPlW
namespace Go.Proofs.YtpigppghcghpbaaGreatDoor
open Go.RowKit

def badK (p : Pl) (k : Nat) : Bool := decide (p.loc < 0) || (p.path.take k).any fun k => decide (k < -1)
theorem badK_all (p : Pl) : badK p p.path.length = badP p := by unfold badK badP; rw [List.take_length]
theorem badK_succ {p : Pl} {k : Nat} (h : k < p.path.length) : badK p (k + 1) = (badK p k || decide (p.path.getD k 0 < -1)) := by
  unfold badK
  rw [take_intD h, List.any_append, Bool.or_assoc]
  simp
theorem text_nil {p : Pl} (h : badP p = true) : (⟨(textP p).toArray⟩ : ByteArray) = ⟨#[]⟩ := by unfold textP; rw [if_pos h]
theorem text_size {p : Pl} (h : Pl64 p) (hl : p.path.length ≤ 100) : (⟨(textP p).toArray⟩ : ByteArray).size ≤ 3000 := by
  by_cases hb : badP p = true
  · rw [text_nil hb]; decide
  · rw [← txtB_all (by simpa using hb)]
    have := txtB_size h p.path.length (Nat.le_refl _)
    omega
theorem text_some {p : Pl} (h : badP p = false) : ((⟨(textP p).toArray⟩ : ByteArray).toList == []) = false := by
  rw [toList_beqP]
  refine decide_eq_false (fun e => ?_)
  have e2 := congrArg (fun s : ByteArray => s.data.toList) e
  have e3 : textP p = [] := e2
  unfold textP at e3
  rw [if_neg (by rw [h]; decide)] at e3
  cases e3
theorem rd_bad {p : Pl} (h : badP p = true) : rdL (textP p) = none := by unfold textP; rw [if_pos h]; rfl
theorem rd_long {p : Pl} (h : badP p = false) (h64 : Pl64 p) (hl : 8 < p.path.length) : rdL (textP p) = none := by rw [text_back p h h64.1.2 (fun k hk => (h64.2 k hk).2), if_pos hl]
theorem rd_good {p : Pl} (h : badP p = false) (h64 : Pl64 p) (hl : ¬ 8 < p.path.length) : rdL (textP p) = some p := by rw [text_back p h h64.1.2 (fun k hk => (h64.2 k hk).2), if_neg hl]
/-- What of a world after Read of the law's own text. -/
structure AfterRd (w0 w : World) (B : Nat) : Prop where
  kb : KB F0 w0 w
  blk : ∃ x v, w.heap[B]? = some (.cells #[.int .i64 x, v] 26 (0, 0))
  new : w0.heap.size ≤ B

set_option maxRecDepth 100000 in
set_option maxHeartbeats 32000000 in
theorem back_any (p : Pl) (h64 : Pl64 p) (a : Option Addr) (c : Nat) (s : ByteArray) (w : World) (hT : TabP w) (hp : IntsAt w a p.path) (hc : p.path.length ≤ c) :
    Calls Tryz.prog 7 #[plV p a c, .string s] w fun e w' => e = .returned (.bool true) ∧ KB F0 w w' := by
  obtain ⟨w0, rfl⟩ : ∃ w0, w0 = w := ⟨_, rfl⟩
  obtain ⟨N, hN⟩ : ∃ N, N = p.path.length := ⟨_, rfl⟩
  obtain ⟨x, hx⟩ : ∃ x, x = p.loc := ⟨_, rfl⟩
  have AW := Lib.hid (fun (W : World) (hk : KB F0 w0 W) => awake_any W (hT.kb hk))
  have RD := Lib.hid (fun (t : ByteArray) (ht : t.size ≤ 1000000) (W : World) (hk : KB F0 w0 W) => read_any t ht W (hT.kb hk))
  have TX := Lib.hid (fun (hl : N ≤ 100000) (W : World) (hk : KB F0 w0 W) => text_any p h64 a c W (hT.kb hk) ⟨hp.kbF hk, hc, by omega⟩)
  have PA := Lib.hid (fun (hl : N ≤ 100000) (W : World) (hk : KB F0 w0 W) => (show PlAt W p a c from ⟨hp.kbF hk, hc, by omega⟩))
  have HT := Lib.hid hT
  have HI : Hid (∀ k, k < N → ∃ b off, a = some ⟨b, off, none⟩ ∧ w0.cell? ⟨b, off + k, none⟩ = some (.int .i64 (p.path.getD k 0))) := Lib.hid (fun k hk => hp k (by rw [← hN]; exact hk))
  have HN := Lib.hid (And.intro hN (And.intro hx h64))
  unfold plV at TX ⊢
  rw [← hN, ← hx] at TX
  rw [← hN, ← hx]
  clear hT hp hc hN hx h64
  obtain ⟨hk2, hb1, hb2⟩ := new2 w0 #[.int .i64 x, .slice a N c] #[.int .i64 x, .slice a N c] 26 26
  obtain ⟨W, hW⟩ : ∃ W, W = ((w0.alloc (.cells #[.int .i64 x, .slice a N c] 26)).alloc (.cells #[.int .i64 x, .slice a N c] 26)) := ⟨_, rfl⟩
  rw [← hW] at hk2 hb1 hb2
  have f1 := fits1_any (w0.heap.size + 1) a N c W (blk_cell hb2 1)
  have HB := Lib.hid (And.intro hk2 hb1)
  have FT := Lib.hid f1
  have HW := Lib.hid hW
  clear hk2 hb1 hb2 f1 hW
  go_enter Tryz.func7, Tryz.ntmps7
  go_wp2_with fail
  rw [← HW.out]
  refine FT.out.mono ?_
  rintro e w1 ⟨rfl, rfl⟩
  by_cases h60 : N ≤ 60
  case neg =>
    rw [decide_eq_false h60]
    clear h60
    go_wp2_with fail
    refine (AW.out _ HB.out.1).mono ?_
    rintro e w1 ⟨rfl, k1⟩
    have K1 := Lib.hid (HB.out.1.trans k1)
    clear k1
    go_wp2_with fail
    go_ret
    exact ⟨rfl, K1.out⟩
  rw [decide_eq_true h60]
  by_cases hs : s.size ≤ 4096
  case neg =>
    have d1 : decide ((4096 : Int) < (s.size : Int)) = true := decide_eq_true (by omega)
    have d1n : decide (4096 < s.size) = true := decide_eq_true (by omega)
    clear h60 hs
    go_wp2_with fail
    refine (AW.out _ HB.out.1).mono ?_
    rintro e w1 ⟨rfl, k1⟩
    have K1 := Lib.hid (HB.out.1.trans k1)
    clear k1 d1 d1n
    go_wp2_with fail
    go_ret
    exact ⟨rfl, K1.out⟩
  have d1 : decide ((4096 : Int) < (s.size : Int)) = false := decide_eq_false (by omega)
  have d1n : decide (4096 < s.size) = false := decide_eq_false (by omega)
  have x0 : w1.cell? ⟨w0.heap.size, 0, none⟩ = some (.int .i64 x) := blk_cell HB.out.2 0
  have x1 : w1.cell? ⟨w0.heap.size, 1, none⟩ = some (.slice a N c) := blk_cell HB.out.2 1
  have H60 := Lib.hid (And.intro h60 hs)
  have TX1 := Lib.hid (TX.out (by omega) _ HB.out.1)
  have TS : Hid ((⟨(textP p).toArray⟩ : ByteArray).size ≤ 3000) := Lib.hid (text_size HN.out.2.2 (by have := HN.out.1; omega))
  have HF0 : Hid ((⟨(textP p).toArray⟩ : ByteArray).data.toList = textP p) := Lib.hid rfl
  have HNil : Hid (badP p = true → (⟨(textP p).toArray⟩ : ByteArray) = ⟨#[]⟩) := Lib.hid text_nil
  have HSome : Hid (badP p = false → ((⟨(textP p).toArray⟩ : ByteArray).toList == []) = false) := Lib.hid text_some
  generalize (⟨(textP p).toArray⟩ : ByteArray) = T at TX1 TS HF0 HNil HSome
  clear h60 hs TX
  go_wp2_with fail
  refine TX1.out.mono ?_
  rintro e w2 ⟨rfl, k2⟩
  have hb := k2.heap (fun x => x) HB.out.2
  have H2 := Lib.hid (And.intro (HB.out.1.trans k2) hb)
  clear k2 x0 x1 d1 d1n hb TX1
  have x0 : w2.cell? ⟨w0.heap.size, 0, none⟩ = some (.int .i64 x) := blk_cell H2.out.2 0
  have x1 : w2.cell? ⟨w0.heap.size, 1, none⟩ = some (.slice a N c) := blk_cell H2.out.2 1
  obtain ⟨b0, hb0⟩ : ∃ b0, b0 = decide (x < 0) := ⟨_, rfl⟩
  have HB0 : Hid (b0 = badK p 0) := Lib.hid (by rw [hb0, HN.out.2.1]; simp [badK])
  have d1 := hb0.symm
  clear hb0
  go_wp2_with fail
  clear d1
  go_loopw [6, 7] (fun bv kv wr => ∃ (k : Nat) (b : Bool), k ≤ N ∧ bv = .bool b ∧ kv = .int .i64 (k : Nat) ∧ Hid (b = badK p k) ∧ w2 = wr) (fun _ kv _ => N - (intOf kv).toNat)
  case atStart => exact ⟨0, b0, by omega, rfl, rfl, HB0, rfl⟩
  case round =>
    obtain ⟨k, b, hk, rfl, rfl, hbk, rfl⟩ := hrel
    have hn60 : N ≤ 60 := H60.out.1
    by_cases hlt : k < N
    · have hkN : (k : Int) < (N : Int) := by omega
      have d2 : decide ((k : Int) < (N : Int)) = true := decide_eq_true hkN
      have hsucc := badK_succ (p := p) (k := k) (by rw [← HN.out.1]; exact hlt)
      obtain ⟨bb, off, rfl, hc0⟩ := HI.out k hlt
      have hc := H2.out.1.cell (p := ⟨bb, off + k, none⟩) (fun x => x) hc0
      generalize p.path.getD k 0 = y at hc hsucc
      rw [← hbk.out] at hsucc
      clear hc0 hbk
      cases b
      case true =>
        have HN1 : Hid (true = badK p (k + 1)) := Lib.hid (by rw [hsucc]; rfl)
        clear hsucc
        go_wp2_with fail
        refine ⟨⟨k + 1, true, by omega, rfl, by go_num, HN1, trivial⟩, by simp [intOf]; omega⟩
      case false =>
        obtain ⟨b1, hb1⟩ : ∃ b1, b1 = decide (y < -1) := ⟨_, rfl⟩
        have HN1 : Hid (b1 = badK p (k + 1)) := Lib.hid (by rw [hsucc, hb1]; rfl)
        have d3 := hb1.symm
        clear hsucc hb1
        go_wp2_with fail
        refine ⟨⟨k + 1, b1, by omega, rfl, by go_num, HN1, trivial⟩, by simp [intOf]; omega⟩
    · obtain rfl : k = N := by omega
      have d2 : decide ((k : Int) < (k : Int)) = false := decide_eq_false (by omega)
      have HBP : Hid (b = badP p) := Lib.hid (by rw [hbk.out, HN.out.1, badK_all])
      clear hbk
      have RT := Lib.hid (RD.out T (by have := TS.out; omega) _ H2.out.1)
      rw [HF0.out] at RT
      cases b
      case true =>
        as_aux_lemma =>
        have hT0 : T = ⟨#[]⟩ := HNil.out HBP.out.symm
        rw [rd_bad HBP.out.symm] at RT
        subst hT0
        clear HNil HSome TS HF0
        go_wp2_with fail
        refine RT.out.mono ?_
        rintro e w3 ⟨v3, rfl, ho3, k3⟩
        obtain ⟨va, vc, rfl, -, -, -⟩ := ho3.at
        rw [show (rdP none).loc = 0 from rfl, show (rdP none).path.length = 0 from rfl, show rdE none = 90 from rfl]
        have kx := k3.alloc (.cells #[.int .i64 0, .slice va 0 vc] 26)
        have KA := Lib.hid (H2.out.1.trans kx)
        have K3 := Lib.hid (H2.out.1.trans k3)
        have BA := Lib.hid (alloc_new w3 (.cells #[.int .i64 0, .slice va 0 vc] 26))
        clear k3 kx ho3 x0 x1
        go_wp2_with fail
        have RS := Lib.hid (RD.out s (by have := H60.out.2; omega) _ KA.out)
        have HRT : Hid (∀ q, rdL s.data.toList = some q → (⟨(textP q).toArray⟩ : ByteArray) = s ∧ q.path.length ≤ 8 ∧ Pl64 q) := Lib.hid (fun q hq => ⟨(bytes_of (read_text hq).symm).symm, rdL_small hq⟩)
        generalize rdL s.data.toList = o at RS HRT
        refine RS.out.mono ?_
        rintro e w4 ⟨v4, rfl, ho4, k4⟩
        have hb4 := k4.heap (fun x => x) BA.out
        have K4 := Lib.hid (KA.out.trans k4)
        obtain ⟨va4, vc4, rfl, hl4, -, hi4⟩ := ho4.at
        have q0 : w4.cell? ⟨w3.heap.size, 0, none⟩ = some (.int .i64 0) := blk_cell hb4 0
        have q1 : w4.cell? ⟨w3.heap.size, 1, none⟩ = some (.slice va 0 vc) := blk_cell hb4 1
        have f0 := blk_frozen hb4 0
        have f1 := blk_frozen hb4 1
        have kn : w0.heap.size ≤ w3.heap.size := K3.out.size
        have HB4 := Lib.hid hb4
        cases o with
        | none =>
          rw [show (rdP none).loc = 0 from rfl, show (rdP none).path.length = 0 from rfl, show rdE none = 90 from rfl]
          have K5 := Lib.hid (kb_new (kb_new K4.out kn 0 (.int .i64 0)) kn 1 (.slice va4 0 vc4))
          clear k4 hb4 ho4 hl4 hi4 kn
          go_wp2_with fail
          refine (AW.out _ K5.out).mono ?_
          rintro e w5 ⟨rfl, k5⟩
          have K6 := Lib.hid (K5.out.trans k5)
          clear k5 q0 q1 f0 f1
          go_wp2_with fail
          go_ret
          exact ⟨rfl, K6.out⟩
        | some r =>
          have hr := HRT.out r rfl
          have e1 : (rdP (some r)).loc = r.loc := rfl
          have e2 : (rdP (some r)).path = r.path := rfl
          rw [e2] at hl4 hi4
          rw [e1, e2, show rdE (some r) = 0 from rfl]
          have K5 := Lib.hid (kb_new (kb_new K4.out kn 0 (.int .i64 r.loc)) kn 1 (.slice va4 r.path.length vc4))
          have hb5 : ((w4.setCell ⟨w3.heap.size, 0, none⟩ (.int .i64 r.loc)).setCell ⟨w3.heap.size, 1, none⟩ (.slice va4 r.path.length vc4)).heap[w3.heap.size]? = some (.cells #[.int .i64 r.loc, .slice va4 r.path.length vc4] 26 (0, 0)) := setCell_blk (i := 1) (setCell_blk (i := 0) HB4.out (.int .i64 r.loc)) (.slice va4 r.path.length vc4)
          have hne : ∀ g, (Value.slice va4 r.path.length vc4).ownBlock = some g → g ≠ w3.heap.size := fun g e1 e2 => by
            have h1 := own_block ho4 e1
            obtain ⟨cur, h1, -⟩ := h1
            rw [e2, HB4.out] at h1
            simp only [Option.some.injEq, Obj.cells.injEq] at h1
            exact absurd h1.2.1 (by decide)
          have ho5 := own_kb ho4 ((kb_set w4 w3.heap.size 0 (.int .i64 r.loc)).trans (kb_set _ w3.heap.size 1 (.slice va4 r.path.length vc4))) (fun g e1 e2 => hne g e1 e2)
          obtain ⟨va5, vc5, e5, -, -, hi5⟩ := OwnI.at (xs := r.path) ho5
          simp only [Value.slice.injEq] at e5
          obtain ⟨rfl, -, rfl⟩ := e5
          have TX5 := Lib.hid (text_any r hr.2.2 va4 vc4 _ (HT.out.kb K5.out) ⟨hi5, hl4, by have := hr.2.1; omega⟩)
          rw [hr.1] at TX5
          unfold plV at TX5
          generalize r.loc = rl at TX5 K5 hb5
          generalize r.path.length = rn at TX5 K5 hb5
          clear k4 hb4 ho4 ho5 hl4 hi4 hi5 hne kn hr e1 e2 HB4 HRT
          go_upto_region 15 with fail
          generalize ((w4.setCell ⟨w3.heap.size, 0, none⟩ (.int .i64 rl)).setCell ⟨w3.heap.size, 1, none⟩ (.slice va4 rn vc4)) = w5 at TX5 K5 hb5
          clear q0 q1 f0 f1
          have q0 : w5.cell? ⟨w3.heap.size, 0, none⟩ = some (.int .i64 rl) := blk_cell hb5 0
          have q1 : w5.cell? ⟨w3.heap.size, 1, none⟩ = some (.slice va4 rn vc4) := blk_cell hb5 1
          clear hb5
          go_wp2_with fail
          refine TX5.out.mono ?_
          rintro e w6 ⟨rfl, k6⟩
          have K6 := Lib.hid (K5.out.trans k6)
          clear k6 q0 q1
          go_wp2_with fail
          refine (AW.out _ K6.out).mono ?_
          rintro e w7 ⟨rfl, k7⟩
          have K7 := Lib.hid (K6.out.trans k7)
          clear k7
          go_wp2_with fail
          go_ret
          exact ⟨rfl, K7.out⟩
      case false =>
      have hTs := HSome.out HBP.out.symm
      by_cases h8 : 8 < k
      · as_aux_lemma =>
        rw [rd_long HBP.out.symm HN.out.2.2 (by rw [← HN.out.1]; exact h8)] at RT
        have d3 : decide ((k : Int) ≤ 8) = false := decide_eq_false (by omega)
        have d3n : decide (k ≤ 8) = false := decide_eq_false (by omega)
        have d4 : decide ((8 : Int) < (k : Int)) = true := decide_eq_true (by omega)
        have d4n : decide (8 < k) = true := decide_eq_true h8
        clear HNil HSome TS HF0 h8
        go_wp2_with fail
        refine RT.out.mono ?_
        rintro e w3 ⟨v3, rfl, ho3, k3⟩
        obtain ⟨va, vc, rfl, -, -, -⟩ := ho3.at
        rw [show (rdP none).loc = 0 from rfl, show (rdP none).path.length = 0 from rfl, show rdE none = 90 from rfl]
        have kx := k3.alloc (.cells #[.int .i64 0, .slice va 0 vc] 26)
        have KA := Lib.hid (H2.out.1.trans kx)
        have K3 := Lib.hid (H2.out.1.trans k3)
        have BA := Lib.hid (alloc_new w3 (.cells #[.int .i64 0, .slice va 0 vc] 26))
        have hbx := kx.heap (fun x => x) H2.out.2
        have x1 : (w3.alloc (.cells #[.int .i64 0, .slice va 0 vc] 26)).cell? ⟨w0.heap.size, 1, none⟩ = some (.slice a k c) := blk_cell hbx 1
        clear k3 kx ho3 x0 hTs hbx
        go_wp2_with fail
        have RS := Lib.hid (RD.out s (by have := H60.out.2; omega) _ KA.out)
        have HRT : Hid (∀ q, rdL s.data.toList = some q → (⟨(textP q).toArray⟩ : ByteArray) = s ∧ q.path.length ≤ 8 ∧ Pl64 q) := Lib.hid (fun q hq => ⟨(bytes_of (read_text hq).symm).symm, rdL_small hq⟩)
        generalize rdL s.data.toList = o at RS HRT
        refine RS.out.mono ?_
        rintro e w4 ⟨v4, rfl, ho4, k4⟩
        have hb4 := k4.heap (fun x => x) BA.out
        have K4 := Lib.hid (KA.out.trans k4)
        obtain ⟨va4, vc4, rfl, hl4, -, hi4⟩ := ho4.at
        have q0 : w4.cell? ⟨w3.heap.size, 0, none⟩ = some (.int .i64 0) := blk_cell hb4 0
        have q1 : w4.cell? ⟨w3.heap.size, 1, none⟩ = some (.slice va 0 vc) := blk_cell hb4 1
        have f0 := blk_frozen hb4 0
        have f1 := blk_frozen hb4 1
        have kn : w0.heap.size ≤ w3.heap.size := K3.out.size
        have HB4 := Lib.hid hb4
        cases o with
        | none =>
          rw [show (rdP none).loc = 0 from rfl, show (rdP none).path.length = 0 from rfl, show rdE none = 90 from rfl]
          have K5 := Lib.hid (kb_new (kb_new K4.out kn 0 (.int .i64 0)) kn 1 (.slice va4 0 vc4))
          clear k4 hb4 ho4 hl4 hi4 kn
          go_wp2_with fail
          refine (AW.out _ K5.out).mono ?_
          rintro e w5 ⟨rfl, k5⟩
          have K6 := Lib.hid (K5.out.trans k5)
          clear k5 q0 q1 f0 f1
          go_wp2_with fail
          go_ret
          exact ⟨rfl, K6.out⟩
        | some r =>
          have hr := HRT.out r rfl
          have e1 : (rdP (some r)).loc = r.loc := rfl
          have e2 : (rdP (some r)).path = r.path := rfl
          rw [e2] at hl4 hi4
          rw [e1, e2, show rdE (some r) = 0 from rfl]
          have K5 := Lib.hid (kb_new (kb_new K4.out kn 0 (.int .i64 r.loc)) kn 1 (.slice va4 r.path.length vc4))
          have hb5 : ((w4.setCell ⟨w3.heap.size, 0, none⟩ (.int .i64 r.loc)).setCell ⟨w3.heap.size, 1, none⟩ (.slice va4 r.path.length vc4)).heap[w3.heap.size]? = some (.cells #[.int .i64 r.loc, .slice va4 r.path.length vc4] 26 (0, 0)) := setCell_blk (i := 1) (setCell_blk (i := 0) HB4.out (.int .i64 r.loc)) (.slice va4 r.path.length vc4)
          have hne : ∀ g, (Value.slice va4 r.path.length vc4).ownBlock = some g → g ≠ w3.heap.size := fun g e1 e2 => by
            have h1 := own_block ho4 e1
            obtain ⟨cur, h1, -⟩ := h1
            rw [e2, HB4.out] at h1
            simp only [Option.some.injEq, Obj.cells.injEq] at h1
            exact absurd h1.2.1 (by decide)
          have ho5 := own_kb ho4 ((kb_set w4 w3.heap.size 0 (.int .i64 r.loc)).trans (kb_set _ w3.heap.size 1 (.slice va4 r.path.length vc4))) (fun g e1 e2 => hne g e1 e2)
          obtain ⟨va5, vc5, e5, -, -, hi5⟩ := OwnI.at (xs := r.path) ho5
          simp only [Value.slice.injEq] at e5
          obtain ⟨rfl, -, rfl⟩ := e5
          have TX5 := Lib.hid (text_any r hr.2.2 va4 vc4 _ (HT.out.kb K5.out) ⟨hi5, hl4, by have := hr.2.1; omega⟩)
          rw [hr.1] at TX5
          unfold plV at TX5
          generalize r.loc = rl at TX5 K5 hb5
          generalize r.path.length = rn at TX5 K5 hb5
          clear k4 hb4 ho4 ho5 hl4 hi4 hi5 hne kn hr e1 e2 HB4 HRT
          go_upto_region 15 with fail
          generalize ((w4.setCell ⟨w3.heap.size, 0, none⟩ (.int .i64 rl)).setCell ⟨w3.heap.size, 1, none⟩ (.slice va4 rn vc4)) = w5 at TX5 K5 hb5
          clear q0 q1 f0 f1
          have q0 : w5.cell? ⟨w3.heap.size, 0, none⟩ = some (.int .i64 rl) := blk_cell hb5 0
          have q1 : w5.cell? ⟨w3.heap.size, 1, none⟩ = some (.slice va4 rn vc4) := blk_cell hb5 1
          clear hb5
          go_wp2_with fail
          refine TX5.out.mono ?_
          rintro e w6 ⟨rfl, k6⟩
          have K6 := Lib.hid (K5.out.trans k6)
          clear k6 q0 q1
          go_wp2_with fail
          refine (AW.out _ K6.out).mono ?_
          rintro e w7 ⟨rfl, k7⟩
          have K7 := Lib.hid (K6.out.trans k7)
          clear k7
          go_wp2_with fail
          go_ret
          exact ⟨rfl, K7.out⟩
      · as_aux_lemma =>
        rw [rd_good HBP.out.symm HN.out.2.2 (by rw [← HN.out.1]; exact h8)] at RT
        have d3 : decide ((k : Int) ≤ 8) = true := decide_eq_true (by omega)
        have d3n : decide (k ≤ 8) = true := decide_eq_true (by omega)
        have d4 : decide ((8 : Int) < (k : Int)) = false := decide_eq_false (by omega)
        have d4n : decide (8 < k) = false := decide_eq_false h8
        clear HNil HSome TS HF0 h8
        go_wp2_with fail
        refine RT.out.mono ?_
        rintro e w3 ⟨v3, rfl, ho3, k3⟩
        obtain ⟨va, vc, rfl, hl3, -, hi3⟩ := ho3.at
        rw [show (rdP (some p)).loc = p.loc from rfl, show (rdP (some p)).path = p.path from rfl, show rdE (some p) = 0 from rfl]
        rw [show (rdP (some p)).path = p.path from rfl] at hl3 hi3
        have kx := k3.alloc (.cells #[.int .i64 p.loc, .slice va p.path.length vc] 26)
        have PB := Lib.hid (show PlAt (w3.alloc (.cells #[.int .i64 p.loc, .slice va p.path.length vc] 26)) p va vc from ⟨hi3.kbF ((KB.refl _ _).alloc _), hl3, by have := HN.out.1; omega⟩)
        have SM := Lib.hid (same_any p p a va c vc _ (PA.out (by omega) _ (H2.out.1.trans kx)) PB.out)
        rw [show decide (ordP p p = 0) = true from decide_eq_true (ordP_zero.2 ⟨rfl, rfl⟩)] at SM
        unfold plV at SM
        rw [← HN.out.1, ← HN.out.2.1] at SM kx
        rw [← HN.out.1, ← HN.out.2.1]
        have KA0 := Lib.hid (H2.out.1.trans kx)
        have K3 := Lib.hid (H2.out.1.trans k3)
        have ba := alloc_new w3 (.cells #[.int .i64 x, .slice va k vc] 26)
        have BA0 := Lib.hid ba
        have hbx := kx.heap (fun x => x) H2.out.2
        have x0 : (w3.alloc (.cells #[.int .i64 x, .slice va k vc] 26)).cell? ⟨w0.heap.size, 0, none⟩ = some (.int .i64 x) := blk_cell hbx 0
        have x1 : (w3.alloc (.cells #[.int .i64 x, .slice va k vc] 26)).cell? ⟨w0.heap.size, 1, none⟩ = some (.slice a k c) := blk_cell hbx 1
        clear k3 kx ho3 hTs hbx hl3 hi3 ba
        go_wp2_with fail
        refine SM.out.mono ?_
        rintro e w8 ⟨rfl, k8⟩
        have KA := Lib.hid (KA0.out.trans k8)
        have BA := Lib.hid (k8.heap (fun x => x) BA0.out)
        have x1' : w8.cell? ⟨w0.heap.size, 1, none⟩ = some (.slice a k c) := k8.cell (p := ⟨w0.heap.size, 1, none⟩) (fun x => x) x1
        clear k8 x0 x1
        go_wp2_with fail
        clear x1'
        have RS := Lib.hid (RD.out s (by have := H60.out.2; omega) _ KA.out)
        have HRT : Hid (∀ q, rdL s.data.toList = some q → (⟨(textP q).toArray⟩ : ByteArray) = s ∧ q.path.length ≤ 8 ∧ Pl64 q) := Lib.hid (fun q hq => ⟨(bytes_of (read_text hq).symm).symm, rdL_small hq⟩)
        generalize rdL s.data.toList = o at RS HRT
        refine RS.out.mono ?_
        rintro e w4 ⟨v4, rfl, ho4, k4⟩
        have hb4 := k4.heap (fun x => x) BA.out
        have K4 := Lib.hid (KA.out.trans k4)
        obtain ⟨va4, vc4, rfl, hl4, -, hi4⟩ := ho4.at
        have q0 : w4.cell? ⟨w3.heap.size, 0, none⟩ = some (.int .i64 x) := blk_cell hb4 0
        have q1 : w4.cell? ⟨w3.heap.size, 1, none⟩ = some (.slice va k vc) := blk_cell hb4 1
        have f0 := blk_frozen hb4 0
        have f1 := blk_frozen hb4 1
        have kn : w0.heap.size ≤ w3.heap.size := K3.out.size
        have HB4 := Lib.hid hb4
        cases o with
        | none =>
          rw [show (rdP none).loc = 0 from rfl, show (rdP none).path.length = 0 from rfl, show rdE none = 90 from rfl]
          have K5 := Lib.hid (kb_new (kb_new K4.out kn 0 (.int .i64 0)) kn 1 (.slice va4 0 vc4))
          clear k4 hb4 ho4 hl4 hi4 kn
          go_wp2_with fail
          refine (AW.out _ K5.out).mono ?_
          rintro e w5 ⟨rfl, k5⟩
          have K6 := Lib.hid (K5.out.trans k5)
          clear k5 q0 q1 f0 f1
          go_wp2_with fail
          go_ret
          exact ⟨rfl, K6.out⟩
        | some r =>
          have hr := HRT.out r rfl
          have e1 : (rdP (some r)).loc = r.loc := rfl
          have e2 : (rdP (some r)).path = r.path := rfl
          rw [e2] at hl4 hi4
          rw [e1, e2, show rdE (some r) = 0 from rfl]
          have K5 := Lib.hid (kb_new (kb_new K4.out kn 0 (.int .i64 r.loc)) kn 1 (.slice va4 r.path.length vc4))
          have hb5 : ((w4.setCell ⟨w3.heap.size, 0, none⟩ (.int .i64 r.loc)).setCell ⟨w3.heap.size, 1, none⟩ (.slice va4 r.path.length vc4)).heap[w3.heap.size]? = some (.cells #[.int .i64 r.loc, .slice va4 r.path.length vc4] 26 (0, 0)) := setCell_blk (i := 1) (setCell_blk (i := 0) HB4.out (.int .i64 r.loc)) (.slice va4 r.path.length vc4)
          have hne : ∀ g, (Value.slice va4 r.path.length vc4).ownBlock = some g → g ≠ w3.heap.size := fun g e1 e2 => by
            have h1 := own_block ho4 e1
            obtain ⟨cur, h1, -⟩ := h1
            rw [e2, HB4.out] at h1
            simp only [Option.some.injEq, Obj.cells.injEq] at h1
            exact absurd h1.2.1 (by decide)
          have ho5 := own_kb ho4 ((kb_set w4 w3.heap.size 0 (.int .i64 r.loc)).trans (kb_set _ w3.heap.size 1 (.slice va4 r.path.length vc4))) (fun g e1 e2 => hne g e1 e2)
          obtain ⟨va5, vc5, e5, -, -, hi5⟩ := OwnI.at (xs := r.path) ho5
          simp only [Value.slice.injEq] at e5
          obtain ⟨rfl, -, rfl⟩ := e5
          have TX5 := Lib.hid (text_any r hr.2.2 va4 vc4 _ (HT.out.kb K5.out) ⟨hi5, hl4, by have := hr.2.1; omega⟩)
          rw [hr.1] at TX5
          unfold plV at TX5
          generalize r.loc = rl at TX5 K5 hb5
          generalize r.path.length = rn at TX5 K5 hb5
          clear k4 hb4 ho4 ho5 hl4 hi4 hi5 hne kn hr e1 e2 HB4 HRT
          go_upto_region 15 with fail
          generalize ((w4.setCell ⟨w3.heap.size, 0, none⟩ (.int .i64 rl)).setCell ⟨w3.heap.size, 1, none⟩ (.slice va4 rn vc4)) = w5 at TX5 K5 hb5
          clear q0 q1 f0 f1
          have q0 : w5.cell? ⟨w3.heap.size, 0, none⟩ = some (.int .i64 rl) := blk_cell hb5 0
          have q1 : w5.cell? ⟨w3.heap.size, 1, none⟩ = some (.slice va4 rn vc4) := blk_cell hb5 1
          clear hb5
          go_wp2_with fail
          refine TX5.out.mono ?_
          rintro e w6 ⟨rfl, k6⟩
          have K6 := Lib.hid (K5.out.trans k6)
          clear k6 q0 q1
          go_wp2_with fail
          refine (AW.out _ K6.out).mono ?_
          rintro e w7 ⟨rfl, k7⟩
          have K7 := Lib.hid (K6.out.trans k7)
          clear k7
          go_wp2_with fail
          go_ret
          exact ⟨rfl, K7.out⟩
end Go.Proofs.YtpigppghcghpbaaGreatDoor

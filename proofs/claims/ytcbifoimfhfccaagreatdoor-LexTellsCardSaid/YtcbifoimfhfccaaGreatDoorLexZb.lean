/- lex.Each; awake. -/
import Derived.Test.YtcbifoimfhfccaaGreatDoorLexZa
import Derived.Test.YtcbifoimfhfccaaGreatDoorLexQh
namespace Go.Proofs.YtcbifoimfhfccaaGreatDoor
open Go.RowKit

set_option maxRecDepth 100000 in
set_option maxHeartbeats 8000000 in
theorem each_any (s : ByteArray) (hs : s.size ≤ 9223372036854775807) (w : World) (hT : Tab w) :
    Calls Tryz.prog 17 #[.string s] w fun e w' => ∃ g a c, e = .returned (.func (.func 33) #[] #[.pointer (some ⟨g, 0, none⟩)]) ∧ w.heap.size ≤ g ∧ w'.heap[g]? = some (.cells #[.slice a (lexS s).1.length c] 22 (0, 0)) ∧ ToksAt w' a (lexS s).1 ∧ KB F0 w w' := by
  obtain ⟨w0, rfl⟩ : ∃ w0, w0 = w := ⟨_, rfl⟩
  have LX0 := Lib.hid (lex_any s hs w0 hT)
  generalize lexS s = O at LX0 ⊢
  obtain ⟨ts, at_, no⟩ := O
  simp only at LX0 ⊢
  clear hT
  go_enter Tryz.func17, Tryz.ntmps17
  go_wp2_with fail
  refine LX0.out.mono ?_
  rintro e W1 ⟨v, rfl, ho, k1⟩
  obtain ⟨a, c, rfl, hac, hto⟩ := ho.toks
  obtain ⟨W2, hW2⟩ : ∃ W2, W2 = W1.alloc (.cells #[.slice a ts.length c] 22) := ⟨_, rfl⟩
  have HK : Hid (W2.heap[W1.heap.size]? = some (.cells #[.slice a ts.length c] 22 (0, 0)) ∧ ToksAt W2 a ts ∧ KB F0 w0 W2) := Lib.hid (by rw [hW2]; exact ⟨alloc_new _ _, hto.kbF ((KB.refl F0 W1).alloc _), k1.alloc _⟩)
  have HG := Lib.hid k1.size
  clear ho hto k1 hac LX0
  go_wp2_with fail
  rw [← hW2]
  clear hW2
  go_wp2_with fail
  go_ret
  exact ⟨_, a, c, rfl, HG.out, HK.out⟩
theorem each_ne (b : Nat) (w : World) : (binOp BinOp.neq 42 (.func (.func 33) #[] #[.pointer (some ⟨b, 0, none⟩)]) .nilFunc).run Tryz.prog w = .ok (.bool true) w := by kernel_rfl
theorem each_eq (b : Nat) (w : World) : (binOp BinOp.eql 42 (.func (.func 33) #[] #[.pointer (some ⟨b, 0, none⟩)]) .nilFunc).run Tryz.prog w = .ok (.bool false) w := by kernel_rfl
def aw1 : ByteArray := ⟨#[38, 38, 109, 117, 116, 39, 97, 32, 45, 62, 32, 48, 55]⟩
def aw2 : ByteArray := ⟨#[97, 47, 47, 98, 10, 45, 62, 99]⟩
def aw3 : ByteArray := ⟨#[97, 10, 98, 99]⟩
def aw4 : ByteArray := ⟨#[97, 45, 62, 99]⟩
def awL : List Tk := [⟨2, 0, 0, ⟨#[97]⟩⟩, ⟨6, 5, 0, ⟨#[45, 62]⟩⟩, ⟨2, 7, 0, ⟨#[99]⟩⟩]
theorem aw1_ok : (lexS aw1).1.length = 0 ∧ (lexS aw1).2.1 = 12 ∧ (lexS aw1).2.2 = 20 := by decide +kernel
theorem aw2_ok : eqK fullK (lexS aw2).1 awL = true ∧ (lexS aw2).2.2 = 0 := by decide +kernel
theorem aw3_ok : lineS aw3 3 = (2, 2, 0) := by decide +kernel
theorem aw4_ok : (joinS tightAp awL).1 = aw4 ∧ (joinS tightAp awL).2 = 0 := by decide +kernel
theorem aw5_ok : mayS ⟨2, 0, 0, ⟨#[97]⟩⟩ = true := by decide +kernel

set_option maxRecDepth 100000 in
set_option maxHeartbeats 16000000 in
theorem awake_any (w : World) (hT : Tab w) : Calls Tryz.prog 5 #[] w fun e w' => e = .returned (.bool true) ∧ KB F0 w w' := by
  obtain ⟨w0, rfl⟩ : ∃ w0, w0 = w := ⟨_, rfl⟩
  have TB := Lib.hid (fun (W : World) (hk : KB F0 w0 W) => hT.kb hk)
  have e2 : (lexS aw2).1 = awL := eqK_full.1 aw2_ok.1
  have LX1 : Hid (Calls Tryz.prog 15 #[.string aw1] w0 fun e w' => ∃ a c, e = .returned (.tuple #[.slice a 0 c, .int .i64 12, .int .i64 20]) ∧ KB F0 w0 w') := Lib.hid (by
    refine (lex_any aw1 (by decide) w0 hT).mono ?_
    rintro e w' ⟨v, rfl, ho, hk⟩
    obtain ⟨a, c, rfl, -, -⟩ := ho.toks
    rw [aw1_ok.1, aw1_ok.2.1, aw1_ok.2.2]
    exact ⟨a, c, rfl, hk⟩)
  have LX2 : Hid (∀ W, KB F0 w0 W → Calls Tryz.prog 15 #[.string aw2] W fun e w' => ∃ b off c p, e = .returned (.tuple #[.slice (some ⟨b, off, none⟩) 3 c, .int .i64 p, .int .i64 0]) ∧ 3 ≤ c ∧ ToksAt w' (some ⟨b, off, none⟩) awL ∧ KB F0 W w') := Lib.hid (by
    intro W hk0
    refine (lex_any aw2 (by decide) W (TB.out W hk0)).mono ?_
    rintro e w' ⟨v, rfl, ho, hk⟩
    obtain ⟨a, c, rfl, hc, ht⟩ := ho.toks
    rw [e2] at hc ht
    rw [e2, aw2_ok.2]
    obtain ⟨b, off, rfl, -⟩ := ht 0 (by decide)
    exact ⟨b, off, c, _, rfl, hc, ht, hk⟩)
  have TG : Hid (∀ W b off c, KB F0 w0 W → ToksAt W (some ⟨b, off, none⟩) awL → Calls Tryz.prog 12 #[.slice (some ⟨b, off, none⟩) 3 c] W fun e w' => e = .returned (.tuple #[.string aw4, .int .i64 0]) ∧ KB F0 W w') := Lib.hid (by
    intro W b off c hk ht
    have h64 : ∀ k, k < awL.length → Num64 (awL.getD k tk0) := by
      intro k hk
      have hk3 : k < 3 := hk
      have hc : k = 0 ∨ k = 1 ∨ k = 2 := by omega
      rcases hc with rfl | rfl | rfl
      · exact ⟨by decide, by decide, by decide⟩
      · exact ⟨by decide, by decide, by decide⟩
      · exact ⟨by decide, by decide, by decide⟩
    have := tight_any awL (by decide) h64 (some ⟨b, off, none⟩) c W (TB.out W hk) ht
    rw [aw4_ok.1, aw4_ok.2] at this
    exact this)
  have LN : Hid (∀ W, Calls Tryz.prog 16 #[.string aw3, .int .i64 3] W fun e w' => e = .returned (.tuple #[.int .i64 2, .int .i64 2, .int .i64 0]) ∧ W = w') := Lib.hid (by
    intro W
    have := line_any aw3 3 (by decide) W
    rw [aw3_ok] at this
    exact this)
  have EC := Lib.hid (fun (W : World) (hk : KB F0 w0 W) => each_any ⟨#[120]⟩ (by decide) W (TB.out W hk))
  have MY : Hid (∀ W, KB F0 w0 W → Calls Tryz.prog 8 #[.agg #[.int .u8 2, .int .i64 0, .int .i64 0, .string ⟨#[97]⟩]] W fun e w' => e = .returned (.bool true) ∧ KB F0 W w') := Lib.hid (by
    intro W hk
    have := may_any ⟨2, 0, 0, ⟨#[97]⟩⟩ ⟨by decide, by decide, by decide⟩ W (TB.out W hk)
    rw [aw5_ok] at this
    exact this)
  unfold aw1 at LX1
  unfold aw2 at LX2
  unfold aw3 at LN
  unfold aw4 at TG
  clear e2 hT TB
  go_enter Tryz.func5, Tryz.ntmps5
  go_wp2_with fail
  refine LX1.out.mono ?_
  rintro e w1 ⟨a1, c1, rfl, k1⟩
  have K1 := Lib.hid k1
  clear k1 LX1
  go_wp2_with fail
  refine (LX2.out _ K1.out).mono ?_
  rintro e w2 ⟨b, off, c, p, rfl, hc, ht, k2⟩
  have K2 := Lib.hid (And.intro (K1.out.trans k2) ht)
  clear k2 ht LX2
  go_wp2_with fail
  refine (TG.out _ b off c K2.out.1 K2.out.2).mono ?_
  rintro e w3 ⟨rfl, k3⟩
  have K3 := Lib.hid (And.intro (K2.out.1.trans k3) (K2.out.2.kbF k3))
  clear k3 TG
  obtain ⟨b', o', he, h1⟩ := K3.out.2 1 (by decide)
  simp only [Option.some.injEq, Addr.mk.injEq, and_true] at he
  obtain ⟨rfl, rfl⟩ := he
  have c11 : w3.cell? ⟨b, off + 4 + 1, none⟩ = some (.int .i64 5) := h1.at_
  have c13 : w3.cell? ⟨b, off + 4 + 3, none⟩ = some (.string ⟨#[45, 62]⟩) := h1.s
  clear h1
  go_wp2_with fail
  refine (LN.out _).mono ?_
  rintro e w4 ⟨rfl, rfl⟩
  go_wp2_with fail
  refine (EC.out _ K3.out.1).mono ?_
  rintro e w5 ⟨g, a5, c5, rfl, -, -, -, k5⟩
  have K5 := Lib.hid (And.intro (K3.out.1.trans k5) (K3.out.2.kbF k5))
  clear k5 EC c11 c13
  obtain ⟨b', o', he, h0⟩ := K5.out.2 0 (by decide)
  simp only [Option.some.injEq, Addr.mk.injEq, and_true] at he
  obtain ⟨rfl, rfl⟩ := he
  have hne := each_ne g w5
  have c00 : w5.cell? ⟨b, off, none⟩ = some (.int .u8 2) := h0.k
  have c01 : w5.cell? ⟨b, off + 1, none⟩ = some (.int .i64 0) := h0.at_
  have c02 : w5.cell? ⟨b, off + 2, none⟩ = some (.int .i64 0) := h0.n
  have c03 : w5.cell? ⟨b, off + 3, none⟩ = some (.string ⟨#[97]⟩) := h0.s
  clear h0
  go_wp2_with fail
  refine (MY.out _ K5.out.1).mono ?_
  rintro e w6 ⟨rfl, k6⟩
  have K6 := Lib.hid (K5.out.1.trans k6)
  clear k6 MY c00 c01 c02 c03
  go_wp2_with fail
  go_ret
  exact ⟨rfl, K6.out⟩
end Go.Proofs.YtcbifoimfhfccaaGreatDoor

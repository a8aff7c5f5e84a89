/- lex.like. -/
import Derived.Test.YtcbifoimfhfccaaGreatDoorLexQ
namespace Go.Proofs.YtcbifoimfhfccaaGreatDoor
open Go.RowKit

set_option maxRecDepth 100000 in
set_option maxHeartbeats 8000000 in
theorem like_any (s : ByteArray) (us : List Tk) (hs : s.size ≤ 9223372036854775807) (b : Option Addr) (d : Nat) (w : World) (hT : Tab w) (h2 : ToksAt w b us) :
    Calls Tryz.prog 22 #[.string s, .slice b us.length d] w fun e w' => e = .returned (.bool (likeB s us)) ∧ KB F0 w w' := by
  obtain ⟨w0, rfl⟩ : ∃ w0, w0 = w := ⟨_, rfl⟩
  have LX0 := Lib.hid (lex_any s hs w0 hT)
  obtain ⟨r, hr⟩ : ∃ r, r = likeB s us := ⟨_, rfl⟩
  rw [← hr]
  unfold likeB at hr
  have hln := (lexS_len s).1
  obtain ⟨O, hO⟩ : ∃ O, O = lexS s := ⟨_, rfl⟩
  rw [← hO] at LX0 hr hln
  obtain ⟨ts, at_, no⟩ := O
  have EF := Lib.hid (fun (a : Option Addr) (c : Nat) (W : World) (h1 : ToksAt W a ts) (hk : KB F0 w0 W) => equalFunc_any ts us (by simp only at hln; omega) a b c d W h1 (h2.kbF hk))
  obtain ⟨q, hq⟩ : ∃ q, q = eqK sameK ts us := ⟨_, rfl⟩
  rw [← hq] at EF
  simp only at hr
  rw [← hq] at hr
  have Hr := Lib.hid hr
  clear hr hT h2 hO hln hq
  generalize us.length = M at EF ⊢
  go_enter Tryz.func22, Tryz.ntmps22
  go_wp2_with fail
  refine LX0.out.mono ?_
  rintro e W1 ⟨v, rfl, ho, k1⟩
  obtain ⟨a, c, rfl, hac, hto⟩ := ho.toks
  have E1 := Lib.hid (EF.out a c W1 hto k1)
  have K1 := Lib.hid k1
  clear ho hto k1 hac EF LX0
  simp only at E1 ⊢
  by_cases h0 : no = 0
  · have d1 : ((no : Int) == 0) = true := by simp; omega
    have HE : Hid (r = q) := Lib.hid (by rw [Hr.out, decide_eq_true h0]; rfl)
    clear h0
    go_wp2_with fail
    refine E1.out.mono ?_
    rintro e W2 ⟨rfl, k2⟩
    have K2 := Lib.hid (K1.out.trans k2)
    clear k2
    go_wp2_with fail
    go_ret
    exact ⟨ret_eq (by rw [HE.out]; rfl), K2.out⟩
  · have d1 : ((no : Int) == 0) = false := by simp; omega
    have HE : Hid (r = false) := Lib.hid (by rw [Hr.out, decide_eq_false h0]; rfl)
    clear h0
    go_wp2_with fail
    go_ret
    exact ⟨ret_eq (by rw [HE.out]; rfl), K1.out⟩
end Go.Proofs.YtcbifoimfhfccaaGreatDoor

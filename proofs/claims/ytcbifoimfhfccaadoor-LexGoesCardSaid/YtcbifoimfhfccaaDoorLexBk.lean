/- LexBack, walked. -/
import Derived.Test.YtcbifoimfhfccaaDoorLexZd
import Derived.Test.YtcbifoimfhfccaaDoorLexX
namespace Go.Proofs.YtcbifoimfhfccaaDoor
open Go.RowKit

theorem lexS_nil {s : ByteArray} (h : (lexS s).2.2 ≠ 0) : (lexS s).1 = [] := by
  unfold lexS at h ⊢
  split
  · rfl
  · rename_i hb
    rw [if_neg hb] at h
    obtain ⟨j, L, -, -, -, -, e, -⟩ := stuck_of s _ 0 (by omega) h
    unfold lexG
    rw [e]
theorem tok_num {s : ByteArray} {i : Nat} {t : Tk} {n : Nat} (h : TokAt s i t n) : Num64 t := by
  have hp := h.pos
  have hl := h.len
  have hz := size_ext s hp.2
  cases oneC_of h.one with
  | name h1 h2 h3 => rw [h3]; exact ⟨by show (-9223372036854775808 : Int) ≤ 0; decide, by show (0 : Int) ≤ 9223372036854775807; decide, by show (s.extract i (i + n)).size ≤ 1000000000; omega⟩
  | num h1 h2 r h3 h4 =>
    have := (numE_dec h.lt h2 h3).2
    rw [h4]
    exact ⟨by show (-9223372036854775808 : Int) ≤ (r : Int); omega, by show (r : Int) ≤ 9223372036854775807; omega, by show ByteArray.empty.size ≤ 1000000000; decide⟩
  | life h1 h2 h3 h4 h5 h6 => rw [h6]; exact ⟨by show (-9223372036854775808 : Int) ≤ 0; decide, by show (0 : Int) ≤ 9223372036854775807; decide, by show (s.extract (i + 1) (i + n)).size ≤ 1000000000; rw [ByteArray.size_extract]; omega⟩
  | sign h1 h2 h3 h4 h5 h6 => rw [h6]; exact ⟨by show (-9223372036854775808 : Int) ≤ 0; decide, by show (0 : Int) ≤ 9223372036854775807; decide, by show (s.extract i (i + n)).size ≤ 1000000000; omega⟩
theorem chain_num {s : ByteArray} : ∀ ts i, Chain s i ts → ∀ t ∈ ts, Num64 t := by
  intro ts
  induction ts with
  | nil => intro i _ t ht; cases ht
  | cons t ts ih =>
    rintro i ⟨j, n, _, h1, h2⟩ u hu
    rcases List.mem_cons.1 hu with rfl | hu
    · exact tok_num h1
    · exact ih _ h2 u hu
theorem lexS_chain {s : ByteArray} (h : (lexS s).2.2 = 0) : Chain s 0 (lexS s).1 := by
  obtain ⟨h1, h2⟩ := lexS_ok h
  rw [h2] at h ⊢
  exact chain_of s _ 0 h
theorem getD_memK {ts : List Tk} {k : Nat} (h : k < ts.length) : ts.getD k tk0 ∈ ts := by
  rw [List.getD_eq_getElem?_getD, List.getElem?_eq_getElem h]
  exact List.getElem_mem h
theorem lexS_num {s : ByteArray} (h : (lexS s).2.2 = 0) : ∀ k, k < (lexS s).1.length → Num64 ((lexS s).1.getD k tk0) := fun k hk => chain_num _ 0 (lexS_chain h) _ (getD_memK hk)
/-- lex.Lex, its tokens at hand. -/
theorem lexT_any (s : ByteArray) (hs : s.size ≤ 9223372036854775807) (w : World) (hT : Tab w) :
    Calls Tryd.prog 9 #[.string s] w fun e w' => ∃ a c, e = .returned (.tuple #[.slice a (lexS s).1.length c, .int .i64 ((lexS s).2.1 : Nat), .int .i64 ((lexS s).2.2 : Nat)]) ∧ ToksAt w' a (lexS s).1 ∧ KB F0 w w' := by
  refine (lex_any s hs w hT).mono ?_
  rintro e w' ⟨v, rfl, ho, hk⟩
  obtain ⟨a, c, rfl, -, ht⟩ := ho.toks
  exact ⟨a, c, rfl, ht, hk⟩
set_option maxRecDepth 100000 in
set_option maxHeartbeats 8000000 in
theorem fits_all (ts : List Tk) (a : Option Addr) (c : Nat) (w : World) (h1 : ToksAt w a ts) :
    Calls Tryd.prog 13 #[.slice a ts.length c] w fun e w' => ∃ r : Bool, e = .returned (.bool r) ∧ (r = true → ts.length ≤ 16384 ∧ ∀ k, k < ts.length → (ts.getD k tk0).s.size ≤ 16384) ∧ KB F0 w w' := by
  by_cases hl : ts.length ≤ 4611686018427387904
  · exact fits_any ts a c w h1 hl
  · obtain ⟨w0, rfl⟩ : ∃ w0, w0 = w := ⟨_, rfl⟩
    have HD : Hid (¬ ts.length ≤ 16384) := Lib.hid (by omega)
    obtain ⟨N, hN⟩ : ∃ N, N = ts.length := ⟨_, rfl⟩
    have db : decide ((N : Int) ≤ 16384) = false := decide_eq_false (by omega)
    have d1 : decide ((0 : Int) < (N : Int)) = true := decide_eq_true (by omega)
    have d2 : 0 < N := by omega
    have d3 : ¬ N ≤ 16384 := by omega
    rw [← hN] at HD ⊢
    clear hl h1 hN
    go_enter Tryd.func13, Tryd.ntmps13
    go_wp2_with fail
    go_loopw [3, 4] (fun nv kv wr => nv = .int .i64 0 ∧ kv = .int .i64 0 ∧ wr = w0) (fun _ _ _ => 0)
    case atStart => exact ⟨rfl, rfl, rfl⟩
    case round =>
      obtain ⟨rfl, rfl, rfl⟩ := hrel
      go_wp2_with fail
      go_ret
      exact ⟨false, rfl, fun h => (by cases h), KB.refl _ _⟩

set_option maxRecDepth 100000 in
set_option maxHeartbeats 16000000 in
theorem back_any (ts : List Tk) (h64 : ∀ k, k < ts.length → -9223372036854775808 ≤ (ts.getD k tk0).n ∧ (ts.getD k tk0).n ≤ 9223372036854775807) (a : Option Addr) (c : Nat) (s : ByteArray) (w : World) (hT : Tab w) (h1 : ToksAt w a ts) :
    Calls Tryd.prog 4 #[.slice a ts.length c, .string s] w fun e w' => e = .returned (.bool true) ∧ KB F0 w w' := by
  obtain ⟨w0, rfl⟩ : ∃ w0, w0 = w := ⟨_, rfl⟩
  have AW := Lib.hid (fun (W : World) (hk : KB F0 w0 W) => awake_any W (hT.kb hk))
  have FT := Lib.hid (fits_all ts a c w0 h1)
  by_cases hbig : 16384 < s.size
  · have d1 : decide ((16384 : Int) < (s.size : Int)) = true := decide_eq_true (by omega)
    have d1' : 16384 < s.size := hbig
    generalize ts.length = N at FT ⊢
    clear hbig hT h1
    go_enter Tryd.func4, Tryd.ntmps4
    go_wp2_with fail
    refine FT.out.mono ?_
    rintro e w1 ⟨r, rfl, -, k1⟩
    have K1 := Lib.hid k1
    clear k1
    cases r
    all_goals
      go_wp2_with fail
      refine (AW.out _ K1.out).mono ?_
      rintro e w2 ⟨rfl, k2⟩
      have K2 := Lib.hid (K1.out.trans k2)
      clear k2
      go_wp2_with fail
      go_ret
      exact ⟨rfl, K2.out⟩
  have d1 : decide ((16384 : Int) < (s.size : Int)) = false := decide_eq_false (by omega)
  have hs : s.size ≤ 16384 := by omega
  by_cases hfit : ts.length ≤ 16384 ∧ ∀ k, k < ts.length → (ts.getD k tk0).s.size ≤ 16384
  case neg =>
    generalize ts.length = N at FT hfit ⊢
    have HF := Lib.hid hfit
    clear hbig hT h1 hfit hs
    go_enter Tryd.func4, Tryd.ntmps4
    go_wp2_with fail
    refine FT.out.mono ?_
    rintro e w1 ⟨r, rfl, hr, k1⟩
    have K1 := Lib.hid k1
    obtain rfl : r = false := by
      cases r
      · rfl
      · exact absurd (hr rfl) HF.out
    clear k1 hr
    go_wp2_with fail
    refine (AW.out _ K1.out).mono ?_
    rintro e w2 ⟨rfl, k2⟩
    have K2 := Lib.hid (K1.out.trans k2)
    clear k2
    go_wp2_with fail
    go_ret
    exact ⟨rfl, K2.out⟩
  case pos =>
  obtain ⟨hlen, hsz⟩ := hfit
  have hnum : ∀ k, k < ts.length → Num64 (ts.getD k tk0) := fun k hk => ⟨(h64 k hk).1, (h64 k hk).2, by have := hsz k hk; omega⟩
  have TB := Lib.hid (fun (W : World) (hk : KB F0 w0 W) => hT.kb hk)
  have JN := Lib.hid (fun (W : World) (hk : KB F0 w0 W) => join_any ts (by omega) hnum a c W (hT.kb hk) (h1.kbF hk))
  have TI := Lib.hid (fun (W : World) (hk : KB F0 w0 W) => tight_any ts (by omega) hnum a c W (hT.kb hk) (h1.kbF hk))
  have HTS := Lib.hid (fun (W : World) (hk : KB F0 w0 W) => h1.kbF hk)
  have HBK := Lib.hid (join_back (l := ts))
  have HBK2 : Hid (∀ x, likeB x ts = true → (lexS x).2.2 = 0 ∧ x.size ≤ 65536 ∧ ∀ (W : World) (a1 : Option Addr) (c1 : Nat) (a2 : Option Addr) (c2 : Nat), ToksAt W a1 (lexS x).1 → ToksAt W a2 ts → Calls Tryd.prog 16 #[.slice a1 (lexS x).1.length c1, .slice a2 ts.length c2] W fun e w' => e = .returned (.bool true) ∧ KB F0 W w') := Lib.hid (fun x hx => by
    unfold likeB at hx
    rw [Bool.and_eq_true, decide_eq_true_iff] at hx
    exact ⟨hx.1, (lexS_ok hx.1).1, fun W a1 c1 a2 c2 t1 t2 => like_true _ ts hx.2 (by have := (lexS_len x).1; omega) a1 a2 c1 c2 W t1 t2⟩)
  have LX := Lib.hid (fun (x : ByteArray) (hx : x.size ≤ 65536) (W : World) (hk : KB F0 w0 W) => lexT_any x (by omega) W (hT.kb hk))
  generalize joinS allAp ts = JA at JN HBK
  generalize joinS tightAp ts = JT at TI HBK
  obtain ⟨ja, je⟩ := JA
  obtain ⟨jb, jf⟩ := JT
  simp only at JN TI HBK
  -- the text's part
  have LS0 := Lib.hid (fun (W : World) (hk : KB F0 w0 W) => lexT_any s (by omega) W (hT.kb hk))
  have HO1 : Hid ((lexS s).2.2 = 0 → (joinS tightAp (lexS s).1).2 = 0 ∧ likeB (joinS tightAp (lexS s).1).1 (lexS s).1 = true ∧ (joinS tightAp (lexS s).1).1.size ≤ s.size) := Lib.hid (fun h => lex_back hs h)
  have HO2 : Hid ((lexS s).2.2 ≠ 0 → (lexS s).1.length = 0 ∧ (lexS s).2.1 ≤ s.size) := Lib.hid (fun h => ⟨by rw [lexS_nil h]; rfl, (goes_cut hs h).2.1⟩)
  have HO3 : Hid ((lexS s).2.2 = 0 → ∀ (W : World) (a1 : Option Addr) (c1 : Nat), KB F0 w0 W → ToksAt W a1 (lexS s).1 → Calls Tryd.prog 15 #[.slice a1 (lexS s).1.length c1] W fun e w' => e = .returned (.tuple #[.string (joinS tightAp (lexS s).1).1, .int .i64 ((joinS tightAp (lexS s).1).2 : Nat)]) ∧ KB F0 W w') := Lib.hid (fun h W a1 c1 hk ht => tight_any _ (by have := (lexS_len s).1; omega) (lexS_num h) a1 c1 W (hT.kb hk) ht)
  have HO4 : Hid (∀ x, likeB x (lexS s).1 = true → (lexS x).2.2 = 0 ∧ x.size ≤ 65536 ∧ ∀ (W : World) (a1 : Option Addr) (c1 : Nat) (a2 : Option Addr) (c2 : Nat), ToksAt W a1 (lexS x).1 → ToksAt W a2 (lexS s).1 → Calls Tryd.prog 16 #[.slice a1 (lexS x).1.length c1, .slice a2 (lexS s).1.length c2] W fun e w' => e = .returned (.bool true) ∧ KB F0 W w') := Lib.hid (fun x hx => by
    unfold likeB at hx
    rw [Bool.and_eq_true, decide_eq_true_iff] at hx
    exact ⟨hx.1, (lexS_ok hx.1).1, fun W a1 c1 a2 c2 t1 t2 => like_true _ _ hx.2 (by have := (lexS_len x).1; omega) a1 a2 c1 c2 W t1 t2⟩)
  generalize joinS tightAp (lexS s).1 = JM at HO1 HO3
  obtain ⟨bm, fm⟩ := JM
  generalize lexS s = O at LS0 HO1 HO2 HO3 HO4
  obtain ⟨ms, at_, no⟩ := O
  simp only at LS0 HO1 HO2 HO3 HO4
  have LS := LS0
  clear LS0
  have TAIL : Hid (no = 0 → fm = 0 ∧ bm.size ≤ s.size ∧ (lexS bm).2.2 = 0 ∧ (∀ (W : World) (hk : KB F0 w0 W), Calls Tryd.prog 9 #[.string bm] W fun e w' => ∃ a c p, e = .returned (.tuple #[.slice a (lexS bm).1.length c, .int .i64 (p : Int), .int .i64 0]) ∧ ToksAt w' a (lexS bm).1 ∧ KB F0 W w') ∧ ∀ (W : World) (a1 : Option Addr) (c1 : Nat) (a2 : Option Addr) (c2 : Nat), ToksAt W a1 (lexS bm).1 → ToksAt W a2 ms → Calls Tryd.prog 16 #[.slice a1 (lexS bm).1.length c1, .slice a2 ms.length c2] W fun e w' => e = .returned (.bool true) ∧ KB F0 W w') := Lib.hid (fun h => by
    obtain ⟨g1, g2, g3⟩ := HO1.out h
    obtain ⟨g4, g5, g6⟩ := HO4.out bm g2
    refine ⟨g1, g3, g4, fun W hk => ?_, g6⟩
    refine (LX.out bm g5 W hk).mono ?_
    rintro e w' ⟨a, c, rfl, ht, hk2⟩
    rw [g4]
    exact ⟨a, c, _, rfl, ht, hk2⟩)
  have HEAD : Hid (je = 0 → jf = 0 ∧ jb.size ≤ ja.size ∧ (∀ (W : World) (hk : KB F0 w0 W), Calls Tryd.prog 9 #[.string ja] W fun e w' => ∃ a c p, e = .returned (.tuple #[.slice a (lexS ja).1.length c, .int .i64 (p : Int), .int .i64 0]) ∧ ToksAt w' a (lexS ja).1 ∧ KB F0 W w') ∧ (∀ (W : World) (hk : KB F0 w0 W), Calls Tryd.prog 9 #[.string jb] W fun e w' => ∃ a c p, e = .returned (.tuple #[.slice a (lexS jb).1.length c, .int .i64 (p : Int), .int .i64 0]) ∧ ToksAt w' a (lexS jb).1 ∧ KB F0 W w') ∧ (∀ (W : World) (a1 : Option Addr) (c1 : Nat) (a2 : Option Addr) (c2 : Nat), ToksAt W a1 (lexS ja).1 → ToksAt W a2 ts → Calls Tryd.prog 16 #[.slice a1 (lexS ja).1.length c1, .slice a2 ts.length c2] W fun e w' => e = .returned (.bool true) ∧ KB F0 W w') ∧ (∀ (W : World) (a1 : Option Addr) (c1 : Nat) (a2 : Option Addr) (c2 : Nat), ToksAt W a1 (lexS jb).1 → ToksAt W a2 ts → Calls Tryd.prog 16 #[.slice a1 (lexS jb).1.length c1, .slice a2 ts.length c2] W fun e w' => e = .returned (.bool true) ∧ KB F0 W w')) := Lib.hid (fun h => by
    obtain ⟨g1, g2, g3, g4⟩ := HBK.out h
    obtain ⟨q1, q2, q3⟩ := HBK2.out ja g2
    obtain ⟨r1, r2, r3⟩ := HBK2.out jb g3
    refine ⟨g1, g4, fun W hk => ?_, fun W hk => ?_, q3, r3⟩
    · refine (LX.out ja q2 W hk).mono ?_
      rintro e w' ⟨a, c, rfl, ht, hk2⟩
      rw [q1]
      exact ⟨a, c, _, rfl, ht, hk2⟩
    · refine (LX.out jb r2 W hk).mono ?_
      rintro e w' ⟨a, c, rfl, ht, hk2⟩
      rw [r1]
      exact ⟨a, c, _, rfl, ht, hk2⟩)
  have FT2 : Hid (Calls Tryd.prog 13 #[.slice a ts.length c] w0 fun e w' => ∃ r : Bool, e = .returned (.bool r) ∧ KB F0 w0 w') := Lib.hid (FT.out.mono fun e w' ⟨r, h1, _, h3⟩ => ⟨r, h1, h3⟩)
  generalize (lexS ja).1 = xa at HEAD
  generalize (lexS jb).1 = xb at HEAD
  generalize hxm : lexS bm = om at TAIL
  clear hxm HO1 HO4 HBK HBK2 LX hT h1 h64 hnum hsz hlen hbig hs TB FT
  have HN := Lib.hid (rfl : ts.length = ts.length)
  clear HN
  go_enter Tryd.func4, Tryd.ntmps4
  go_wp2_with fail
  refine FT2.out.mono ?_
  rintro e w1 ⟨r, rfl, k1⟩
  have K1 := Lib.hid k1
  clear k1 FT2
  cases r
  case false =>
    go_wp2_with fail
    refine (AW.out _ K1.out).mono ?_
    rintro e w2 ⟨rfl, k2⟩
    have K2 := Lib.hid (K1.out.trans k2)
    clear k2
    go_wp2_with fail
    go_ret
    exact ⟨rfl, K2.out⟩
  case true =>
  go_wp2_with fail
  refine (JN.out _ K1.out).mono ?_
  rintro e w2 ⟨rfl, k2⟩
  have K2 := Lib.hid (K1.out.trans k2)
  clear k2
  go_wp2_with fail
  refine (TI.out _ K2.out).mono ?_
  rintro e w3 ⟨rfl, k3⟩
  have K3 := Lib.hid (K2.out.trans k3)
  clear k3
  by_cases hje : je = 0
  case neg =>
    have e1 : ((je : Int) == 0) = false := by simp; omega
    have e2 : ((je : Int) != 0) = true := by simp; omega
    have KT := K3
    clear hje HEAD
    go_wp2_with fail
    refine (LS.out _ KT.out).mono ?_
    rintro e w6 ⟨a6, c6, rfl, ht6, k6⟩
    have K6 := Lib.hid (And.intro (KT.out.trans k6) ht6)
    clear k6 ht6
    by_cases hno : no = 0
    · obtain ⟨rfl, hle2, -, LB2, LK2⟩ := TAIL.out hno
      have TG := Lib.hid (HO3.out hno)
      subst hno
      have f1 : decide ((bm.size : Int) ≤ (s.size : Int)) = true := decide_eq_true (by omega)
      have f2 : bm.size ≤ s.size := hle2
      have LBH := Lib.hid LB2
      have LKH := Lib.hid LK2
      clear LB2 LK2 hle2 TAIL HO2 HO3
      go_wp2_with fail
      refine (TG.out _ a6 c6 K6.out.1 K6.out.2).mono ?_
      rintro e w7 ⟨rfl, k7⟩
      have K7 := Lib.hid (And.intro (K6.out.1.trans k7) (K6.out.2.kbF k7))
      clear k7
      go_wp2_with fail
      refine (LBH.out _ K7.out.1).mono ?_
      rintro e w8 ⟨a8, c8, p8, rfl, ht8, k8⟩
      have K8 := Lib.hid (And.intro (K7.out.1.trans k8) (And.intro (K7.out.2.kbF k8) ht8))
      clear k8 ht8
      go_wp2_with fail
      refine (LKH.out _ a8 c8 a6 c6 K8.out.2.2 K8.out.2.1).mono ?_
      rintro e w9 ⟨rfl, k9⟩
      have K9 := Lib.hid (K8.out.1.trans k9)
      clear k9
      go_wp2_with fail
      refine (AW.out _ K9.out).mono ?_
      rintro e w10 ⟨rfl, k10⟩
      have K10 := Lib.hid (K9.out.trans k10)
      clear k10
      go_wp2_with fail
      go_ret
      exact ⟨rfl, K10.out⟩
    · have d6 : ((no : Int) == 0) = false := by simp; omega
      have d7 : ((no : Int) != 0) = true := by simp; omega
      obtain ⟨hnil, hat⟩ := HO2.out hno
      have f1 : decide ((at_ : Int) ≤ (s.size : Int)) = true := decide_eq_true (by omega)
      have f2 : decide ((0 : Int) ≤ (at_ : Int)) = true := decide_eq_true (by omega)
      have f3 : at_ ≤ s.size := hat
      rw [hnil]
      clear hno hnil hat TAIL HO2 HO3
      go_wp2_with fail
      refine (AW.out _ K6.out.1).mono ?_
      rintro e w10 ⟨rfl, k10⟩
      have K10 := Lib.hid (K6.out.1.trans k10)
      clear k10
      go_wp2_with fail
      go_ret
      exact ⟨rfl, K10.out⟩
  case pos =>
    obtain ⟨rfl, hle, LA, LB, LKA, LKB⟩ := HEAD.out hje
    subst hje
    have g1 : decide ((ja.size : Int) < (jb.size : Int)) = false := decide_eq_false (by omega)
    have g2 : ¬ (ja.size < jb.size) := by omega
    have HA := Lib.hid LA
    have HB := Lib.hid LB
    have HKA := Lib.hid LKA
    have HKB := Lib.hid LKB
    clear LA LB LKA LKB hle HEAD
    go_wp2_with fail
    refine (HA.out _ K3.out).mono ?_
    rintro e w4 ⟨a4, c4, p4, rfl, ht4, k4⟩
    have K4 := Lib.hid (And.intro (K3.out.trans k4) ht4)
    clear k4 ht4
    go_wp2_with fail
    refine (HB.out _ K4.out.1).mono ?_
    rintro e w5 ⟨a5, c5, p5, rfl, ht5, k5⟩
    have K5 := Lib.hid (And.intro (K4.out.1.trans k5) (And.intro (K4.out.2.kbF k5) ht5))
    clear k5 ht5
    go_wp2_with fail
    refine (HKA.out _ a4 c4 a c K5.out.2.1 (HTS.out _ K5.out.1)).mono ?_
    rintro e v1 ⟨rfl, k6⟩
    have K6a := Lib.hid (And.intro (K5.out.1.trans k6) (K5.out.2.2.kbF k6))
    clear k6
    go_wp2_with fail
    refine (HKB.out _ a5 c5 a c K6a.out.2 (HTS.out _ K6a.out.1)).mono ?_
    rintro e v2 ⟨rfl, k7⟩
    have KT := Lib.hid (K6a.out.1.trans k7)
    clear k7
    go_wp2_with fail
    refine (LS.out _ KT.out).mono ?_
    rintro e w6 ⟨a6, c6, rfl, ht6, k6⟩
    have K6 := Lib.hid (And.intro (KT.out.trans k6) ht6)
    clear k6 ht6
    by_cases hno : no = 0
    · obtain ⟨rfl, hle2, -, LB2, LK2⟩ := TAIL.out hno
      have TG := Lib.hid (HO3.out hno)
      subst hno
      have f1 : decide ((bm.size : Int) ≤ (s.size : Int)) = true := decide_eq_true (by omega)
      have f2 : bm.size ≤ s.size := hle2
      have LBH := Lib.hid LB2
      have LKH := Lib.hid LK2
      clear LB2 LK2 hle2 TAIL HO2 HO3
      go_wp2_with fail
      refine (TG.out _ a6 c6 K6.out.1 K6.out.2).mono ?_
      rintro e w7 ⟨rfl, k7⟩
      have K7 := Lib.hid (And.intro (K6.out.1.trans k7) (K6.out.2.kbF k7))
      clear k7
      go_wp2_with fail
      refine (LBH.out _ K7.out.1).mono ?_
      rintro e w8 ⟨a8, c8, p8, rfl, ht8, k8⟩
      have K8 := Lib.hid (And.intro (K7.out.1.trans k8) (And.intro (K7.out.2.kbF k8) ht8))
      clear k8 ht8
      go_wp2_with fail
      refine (LKH.out _ a8 c8 a6 c6 K8.out.2.2 K8.out.2.1).mono ?_
      rintro e w9 ⟨rfl, k9⟩
      have K9 := Lib.hid (K8.out.1.trans k9)
      clear k9
      go_wp2_with fail
      refine (AW.out _ K9.out).mono ?_
      rintro e w10 ⟨rfl, k10⟩
      have K10 := Lib.hid (K9.out.trans k10)
      clear k10
      go_wp2_with fail
      go_ret
      exact ⟨rfl, K10.out⟩
    · have d6 : ((no : Int) == 0) = false := by simp; omega
      have d7 : ((no : Int) != 0) = true := by simp; omega
      obtain ⟨hnil, hat⟩ := HO2.out hno
      have f1 : decide ((at_ : Int) ≤ (s.size : Int)) = true := decide_eq_true (by omega)
      have f2 : decide ((0 : Int) ≤ (at_ : Int)) = true := decide_eq_true (by omega)
      have f3 : at_ ≤ s.size := hat
      rw [hnil]
      clear hno hnil hat TAIL HO2 HO3
      go_wp2_with fail
      refine (AW.out _ K6.out.1).mono ?_
      rintro e w10 ⟨rfl, k10⟩
      have K10 := Lib.hid (K6.out.1.trans k10)
      clear k10
      go_wp2_with fail
      go_ret
      exact ⟨rfl, K10.out⟩
end Go.Proofs.YtcbifoimfhfccaaDoor

/- LexGoes, walked. -/
import Derived.Test.YtcbifoimfhfccaaDoorLexBk
namespace Go.Proofs.YtcbifoimfhfccaaDoor
open Go.RowKit

theorem goesCat_app (a : List Tk) (t : Tk) : ∀ b, goesCat (a ++ [t]) b = goesCat a b ++ (textS t ++ commX) := by
  induction a with
  | nil => intro b; rfl
  | cons x a ih => intro b; rw [List.cons_append]; unfold goesCat; exact ih _
theorem goesCat_take {ts : List Tk} {k : Nat} (h : k < ts.length) : goesCat (ts.take (k + 1)) ByteArray.empty = goesCat (ts.take k) ByteArray.empty ++ (textS (ts.getD k tk0) ++ commX) := by
  rw [List.take_succ_eq_append_getElem h, goesCat_app, List.getD_eq_getElem?_getD, List.getElem?_eq_getElem h]
  rfl
set_option maxRecDepth 100000 in
set_option maxHeartbeats 16000000 in
/-- The text is lexed: each token's text stands at its place; blanks and comments are of no moment. -/
theorem goes_ok (s u : ByteArray) (hs : s.size ≤ 16384) (hu : u.size ≤ 16384) (hok : (lexS s).2.2 = 0) (w : World) (hT : Tab w) : Calls Tryd.prog 6 #[.string s, .string u] w fun e w' => e = .returned (.bool true) ∧ KB F0 w w' := by
  obtain ⟨w0, rfl⟩ : ∃ w0, w0 = w := ⟨_, rfl⟩
  have AW := Lib.hid (fun (W : World) (hk : KB F0 w0 W) => awake_any W (hT.kb hk))
  have d1 : decide ((16384 : Int) < (s.size : Int)) = false := decide_eq_false (by omega)
  have d1' : ¬ (16384 < s.size) := by omega
  have d2 : decide ((16384 : Int) < (u.size : Int)) = false := decide_eq_false (by omega)
  have d2' : ¬ (16384 < u.size) := by omega
  have hch := lexS_chain hok
  have hmay := chain_may _ _ hch
  have HAT := Lib.hid (fun (k : Nat) (hk : k < (lexS s).1.length) => chain_at _ 0 hch _ (getD_memK hk))
  have TP := Lib.hid (fun (k : Nat) (hk : k < (lexS s).1.length) (W : World) (hkb : KB F0 w0 W) => textP_any ((lexS s).1.getD k tk0) (lexS_num hok k hk) (all_getD.1 hmay k hk) W (hT.kb hkb))
  have HSZ := Lib.hid (fun (k : Nat) (hk : k < (lexS s).1.length) => (may_size (all_getD.1 hmay k hk)).2)
  have LS := Lib.hid (lexT_any s (by omega) w0 hT)
  have HGL := Lib.hid (goes_lex hmay)
  have hlen : (lexS s).1.length ≤ 16384 := by have := (lexS_len s).2; omega
  have LX := Lib.hid (fun (x : ByteArray) (hx : x.size ≤ 9223372036854775807) (W : World) (hk : KB F0 w0 W) => lexT_any x hx W (hT.kb hk))
  have LK : Hid (∀ us, eqK sameK (lexS s).1 us = true → ∀ (W : World) (a1 : Option Addr) (c1 : Nat) (a2 : Option Addr) (c2 : Nat), ToksAt W a1 (lexS s).1 → ToksAt W a2 us → Calls Tryd.prog 16 #[.slice a1 (lexS s).1.length c1, .slice a2 us.length c2] W fun e w' => e = .returned (.bool true) ∧ KB F0 W w') := Lib.hid (fun us hx W a1 c1 a2 c2 t1 t2 => like_true _ us hx (by omega) a1 a2 c1 c2 W t1 t2)
  rw [hok] at LS
  generalize (lexS s).2.1 = at_ at LS
  generalize (lexS s).1 = ts at HAT TP HSZ LS HGL LK hlen
  obtain ⟨N, hN⟩ : ∃ N, N = ts.length := ⟨_, rfl⟩
  rw [← hN] at HAT TP HSZ LS LK hlen
  have HN := Lib.hid hN
  have HU := Lib.hid (And.intro hs hlen)
  clear hmay hch hok hT hs hu hN
  go_enter Tryd.func6, Tryd.ntmps6
  go_wp2_with fail
  refine LS.out.mono ?_
  rintro e w1 ⟨a, c, rfl, ht1, k1⟩
  have K1 := Lib.hid (And.intro k1 ht1)
  clear k1 ht1 LS
  go_wp2_with fail
  go_loopw [8, 9] (fun tv kv wr => ∃ k : Nat, k ≤ N ∧ tv = .string (goesCat (ts.take k) ByteArray.empty) ∧ kv = .int .i64 (k : Nat) ∧ Hid ((goesCat (ts.take k) ByteArray.empty).size ≤ 70 * k ∧ KB F0 w1 wr)) (fun _ kv _ => N - (intOf kv).toNat)
  case atStart => exact ⟨0, by omega, rfl, rfl, Lib.hid ⟨Nat.le_refl _, KB.refl _ _⟩⟩
  case round =>
    obtain ⟨k, hk, rfl, rfl, hst⟩ := hrel
    by_cases hlt : k < N
    · have f1 : decide ((k : Int) < (N : Int)) = true := decide_eq_true (by omega)
      have hkL : k < ts.length := by rw [← HN.out]; exact hlt
      obtain ⟨b1, o1, rfl, hx0⟩ := K1.out.2 k hkL
      have hx := hx0.kbF hst.out.2
      obtain ⟨hm, j, n, hat, hjn, hext, hn⟩ := HAT.out k hlt
      have T := Lib.hid (TP.out k hlt)
      have hz := HSZ.out k hlt
      have HG := Lib.hid (goesCat_take hkL)
      generalize ts.getD k tk0 = t at hx hat hext hn T hz HG
      generalize goesCat (ts.take k) ByteArray.empty = b at hst HG ⊢
      obtain ⟨m, hmm⟩ : ∃ m, m = j + n := ⟨_, rfl⟩
      rw [← hmm] at hjn hext
      have HX := Lib.hid hext
      generalize textS t = x at T hn hz HG HX hext
      have hcmp : ((s.extract j m).toList == x.toList) = true := by rw [hext]; simp
      have c0 := hx.k
      have c1 := hx.at_
      have c2 := hx.n
      have c3 := hx.s
      rw [hat] at c1
      have T2 : Hid (∀ (W : World), KB F0 w0 W → Calls Tryd.prog 21 #[.agg #[.int .u8 (t.k : Nat), .int .i64 (j : Int), .int .i64 t.n, .string t.s]] W fun e w' => e = .returned (.tuple #[.string x, .int .i64 0]) ∧ KB F0 W w') := Lib.hid (by have := T.out; unfold tkC at this; rw [hat] at this; exact this)
      have hxz : x.size ≤ 64 := hz
      have hsz := HU.out.1
      have g1 : IntKind.i64.wrap ((j : Int) + (x.size : Int)) = (m : Int) := by rw [w64 (by omega) (by omega)]; omega
      have g2 : decide ((j : Int) < 0) = false := decide_eq_false (by omega)
      have g3 : decide ((s.size : Int) < (m : Int)) = false := decide_eq_false (by omega)
      have g3' : ¬ (s.size < m) := by omega
      have g4 : (j : Int) ≤ (m : Int) := by omega
      have g5 : (m : Int) ≤ (s.size : Int) := by omega
      have g6 : (k : Int) < (N : Int) := by omega
      have HZ : Hid (b.size + (x.size + 6) ≤ 70 * (k + 1) ∧ N ≤ 16384 ∧ k < N) := Lib.hid ⟨by have := hst.out.1; omega, by have := HU.out.2; omega, hlt⟩
      have HX2 : Hid (goesCat (ts.take (k + 1)) ByteArray.empty = b ++ (x ++ commX)) := HG
      have z1 : ¬ (9223372036854775807 < x.size + 6) := by omega
      have z2 : ¬ (9223372036854775807 < b.size + (x.size + 6)) := by have := HZ.out; omega
      clear hx0 hx hm hat hjn hext hn T hz hmm hkL hxz hsz
      go_wp2_with fail
      refine (T2.out _ (K1.out.1.trans hst.out.2)).mono ?_
      rintro e w2 ⟨rfl, k2⟩
      have y1 := k2.cell (p := ⟨b1, o1 + k * 4 + 1, none⟩) (fun x => x) c1
      have K2 := Lib.hid (hst.out.2.trans k2)
      clear k2 c0 c1 c2 c3 T2
      go_wp2_with fail
      refine wp_region_rv 42 GQ (kindV []) (by kernel_rfl) (by kernel_rfl) GQ.trans GQ.refl (GQ.start _) (kindV_mono _) ?_
      simp only [List.take_succ_cons, List.take_zero, List.drop_succ_cons, List.drop_zero]
      iterate 42 (refine rv_det (by kernel_rfl) rfl (by intro w hG hH; obtain ⟨n, rfl⟩ := hG; go_simp; first | done | with_reducible rfl) ?_; simp only [Act.put, List.setIfInBounds_toArray, List.set_cons_zero, List.set_cons_succ])
      refine rv_nil (fun w hG hH => ?_)
      obtain ⟨n, rfl⟩ := hG
      clear hH
      go_wp2_with fail
      refine ⟨⟨k + 1, by omega, by rw [HX2.out]; rfl, by have := HZ.out; go_num, Lib.hid ⟨by rw [HX2.out, ByteArray.size_append, ByteArray.size_append, show commX.size = 6 from rfl]; exact HZ.out.1, K2.out.drewN _⟩⟩, by have := HZ.out; simp [intOf]; omega⟩
    · obtain rfl : k = N := by omega
      have f1 : decide ((k : Int) < (k : Int)) = false := decide_eq_false (by omega)
      have HG : Hid (if 65536 < (goesCat (ts.take k) ByteArray.empty).size then (lexS (goesCat (ts.take k) ByteArray.empty)).2.2 = 3 else (lexS (goesCat (ts.take k) ByteArray.empty)).2.2 = 0 ∧ eqK sameK ts (lexS (goesCat (ts.take k) ByteArray.empty)).1 = true) := Lib.hid (by rw [HN.out, List.take_length]; exact HGL.out)
      generalize goesCat (ts.take k) ByteArray.empty = b at hst HG ⊢
      have hb := hst.out.1
      have hu := HU.out.2
      have LB := Lib.hid (LX.out b (by omega))
      generalize lexS b = O at HG LB
      obtain ⟨us, p, f⟩ := O
      simp only at HG LB
      have HST := Lib.hid (K1.out.1.trans hst.out.2)
      have HST2 := Lib.hid (K1.out.2.kbF hst.out.2)
      clear hst LX
      by_cases hbig : 65536 < b.size
      · have hf : f = 3 := by have := HG.out; rw [if_pos hbig] at this; exact this
        subst hf
        have e1 : decide ((65536 : Int) < (b.size : Int)) = true := decide_eq_true (by omega)
        have e1' : 65536 < b.size := hbig
        clear hbig hb HG
        go_wp2_with fail
        refine (LB.out _ HST.out).mono ?_
        rintro e w2 ⟨a2, c2, rfl, ht2, k2⟩
        have K2 := Lib.hid (HST.out.trans k2)
        clear k2 ht2 LB
        go_wp2_with fail
        refine (AW.out _ K2.out).mono ?_
        rintro e w3 ⟨rfl, k3⟩
        have K3 := Lib.hid (K2.out.trans k3)
        clear k3
        go_wp2_with fail
        go_ret
        exact ⟨rfl, K3.out⟩
      · have hf : f = 0 ∧ eqK sameK ts us = true := by have := HG.out; rw [if_neg hbig] at this; exact this
        obtain ⟨rfl, heq⟩ := hf
        have e1 : decide ((65536 : Int) < (b.size : Int)) = false := decide_eq_false (by omega)
        have e1' : ¬ 65536 < b.size := hbig
        have LKH := Lib.hid (LK.out us heq)
        clear hbig hb HG LK heq
        go_wp2_with fail
        refine (LB.out _ HST.out).mono ?_
        rintro e w2 ⟨a2, c2, rfl, ht2, k2⟩
        have K2 := Lib.hid (And.intro (HST.out.trans k2) (And.intro (HST2.out.kbF k2) ht2))
        clear k2 ht2 LB
        go_wp2_with fail
        refine (LKH.out _ a c a2 c2 K2.out.2.1 K2.out.2.2).mono ?_
        rintro e w3 ⟨rfl, k3⟩
        have K3 := Lib.hid (K2.out.1.trans k3)
        clear k3
        go_wp2_with fail
        refine (AW.out _ K3.out).mono ?_
        rintro e w4 ⟨rfl, k4⟩
        have K4 := Lib.hid (K3.out.trans k4)
        clear k4
        go_wp2_with fail
        go_ret
        exact ⟨rfl, K4.out⟩
end Go.Proofs.YtcbifoimfhfccaaDoor

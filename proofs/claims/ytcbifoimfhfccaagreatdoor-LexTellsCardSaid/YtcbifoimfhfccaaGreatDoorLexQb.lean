/- lex.text and lex.May. -/
import Derived.Test.YtcbifoimfhfccaaGreatDoorLexQa
import Derived.Test.YtcbifoimfhfccaaGreatDoorLexU
namespace Go.Proofs.YtcbifoimfhfccaaGreatDoor
open Go.RowKit

theorem kb_grow {w w' : World} (h : ∃ k os, w' = Go.Sort.grow (w.drewN k) os) : KB F0 w w' := by
  obtain ⟨k, os, rfl⟩ := h
  exact ⟨rfl, rfl, rfl, by simp [Go.Sort.grow], fun i hi _ => Go.Sort.heap_grow_old (w.drewN k) os hi⟩
/-- A token whose number is one of 64 bits. -/
def Num64 (t : Tk) : Prop := -9223372036854775808 ≤ t.n ∧ t.n ≤ 9223372036854775807 ∧ t.s.size ≤ 1000000000
set_option maxRecDepth 100000 in
set_option maxHeartbeats 4000000 in
theorem text_any (t : Tk) (hn : Num64 t) (w : World) (hT : Tab w) : Calls Tryz.prog 18 #[.agg (tkC t)] w fun e w' => e = .returned (.string (textS t)) ∧ KB F0 w w' := by
  obtain ⟨w0, rfl⟩ : ∃ w0, w0 = w := ⟨_, rfl⟩
  rw [show tkC t = #[.int .u8 (t.k : Nat), .int .i64 t.at_, .int .i64 t.n, .string t.s] from rfl]
  have TB := Lib.hid (fun (W : World) (hk : KB F0 w0 W) => hT.kb hk)
  have HN := Lib.hid hn
  obtain ⟨r, hr⟩ : ∃ r, r = textS t := ⟨_, rfl⟩
  rw [← hr]
  unfold textS at hr
  clear hn hT
  obtain ⟨k, at_, n, s⟩ := t
  simp only at hr ⊢
  by_cases h4 : k = 4
  · have d1 : ((k : Int) == 4) = true := by simp; omega
    have HE : Hid (r = ⟨#[39]⟩ ++ s) := Lib.hid (by rw [hr, if_pos h4])
    clear hr h4
    go_enter Tryz.func18, Tryz.ntmps18
    go_wp2_with fail
    · exfalso; rename_i h; have := HN.out.2.2; simp at h this; omega
    go_ret
    exact ⟨ret_eq (by rw [HE.out]; rfl), (KB.refl F0 w0).alloc _⟩
  · have d1 : ((k : Int) == 4) = false := by simp; omega
    by_cases h5 : k = 5
    · have d2 : ((k : Int) == 5) = true := by simp; omega
      have HE : Hid (r = ⟨(Lib.itoa n).toArray⟩) := Lib.hid (by rw [hr, if_neg h4, if_pos h5])
      clear hr h4 h5
      have FI := Lib.hid (fun (W : World) (hk : KB F0 w0 W) => Tryz.strconv_FormatInt_10 n HN.out.1 HN.out.2.1 W (TB.out W hk).pow)
      clear HN TB
      go_enter Tryz.func18, Tryz.ntmps18
      go_wp2_with fail
      refine (FI.out _ ((KB.refl F0 w0).alloc _)).mono ?_
      rintro e w' ⟨rfl, hw⟩
      have K := Lib.hid (((KB.refl F0 w0).alloc _).trans (kb_grow hw))
      clear hw
      go_wp2_with fail
      go_ret
      exact ⟨ret_eq (by rw [HE.out]; rfl), K.out⟩
    · have d2 : ((k : Int) == 5) = false := by simp; omega
      have HE : Hid (r = s) := Lib.hid (by rw [hr, if_neg h4, if_neg h5])
      clear hr h4 h5 HN TB
      go_enter Tryz.func18, Tryz.ntmps18
      go_wp2_with fail
      go_ret
      exact ⟨ret_eq (by rw [HE.out]; rfl), (KB.refl F0 w0).alloc _⟩
theorem toksAt_one {w : World} {g : Nat} {t : Tk} {cap : Value} (h : w.heap[g]? = some (.cells (tkC t) 27 (0, 0))) : ToksAt w (some ⟨g, 0, none⟩) [t] := by
  intro k hk
  have hk0 : k = 0 := by simpa using hk
  subst hk0
  exact ⟨g, 0, rfl, blk_cell h 0, blk_cell h 1, blk_cell h 2, blk_cell h 3⟩
theorem like_pos {u : ByteArray} {t : Tk} (h : likeB u [t] = true) : 0 < u.size := by
  unfold likeB at h
  rw [Bool.and_eq_true] at h
  have h1 := (eqK_iff.1 h.2).1
  have h2 := (lexS_len u).2
  simp at h1
  omega
set_option maxRecDepth 100000 in
set_option maxHeartbeats 8000000 in
theorem may_any (t : Tk) (hn : Num64 t) (w : World) (hT : Tab w) : Calls Tryz.prog 8 #[.agg (tkC t)] w fun e w' => e = .returned (.bool (mayS t)) ∧ KB F0 w w' := by
  obtain ⟨w0, rfl⟩ : ∃ w0, w0 = w := ⟨_, rfl⟩
  have TX := Lib.hid (fun (W : World) (hk : KB F0 w0 W) => text_any t hn W (hT.kb hk))
  obtain ⟨r, hr⟩ : ∃ r, r = mayS t := ⟨_, rfl⟩
  rw [← hr]
  unfold mayS at hr
  generalize textS t = u at hr TX
  have LK := Lib.hid (fun (hs : u.size ≤ 64) (W : World) (hk : KB F0 w0 W) (g : Nat) (hg : W.heap[g]? = some (.cells (tkC t) 27 (0, 0))) => like_any u [t] (by omega) (some ⟨g, 0, none⟩) 1 W (hT.kb hk) (toksAt_one (cap := .nilIface) hg))
  have LP := Lib.hid (like_pos (u := u) (t := t))
  generalize likeB u [t] = q3 at hr LK LP
  have BL := Lib.hid (fun (c : Nat) (W : World) => lxBlank_any c W)
  have CN := Lib.hid (fun (hs : u.size ≤ 64) (W : World) (hk : KB F0 w0 W) => by
    obtain ⟨m, hm⟩ := (hT.kb hk).len
    exact Tryz.strings_Contains u ⟨#[47, 47]⟩ m W (by omega) hm)
  rw [show ([t] : List Tk).length = 1 from rfl] at LK
  unfold tkC at TX LK ⊢
  have Hr := Lib.hid hr
  clear hr hT hn
  obtain ⟨k, at_, n, s⟩ := t
  simp only at TX LK Hr ⊢
  have lf : ∀ {a : Bool}, r = a → Value.bool a = Value.bool r := fun h => by rw [h]
  obtain ⟨KF, hKF⟩ : ∃ KF : Prop, KF = True := ⟨_, rfl⟩
  go_enter Tryz.func8, Tryz.ntmps8
  go_wp2_with fail
  refine (TX.out _ ((KB.refl F0 w0).alloc _)).mono ?_
  rintro e w1 ⟨rfl, k1⟩
  have tk1 := k1.heap (fun x => x) (alloc_new w0 (.cells #[.int .u8 (k : Nat), .int .i64 at_, .int .i64 n, .string s] 27))
  have c0 : w1.cell? ⟨w0.heap.size, 0, none⟩ = some (.int .u8 (k : Nat)) := blk_cell tk1 0
  have c1 : w1.cell? ⟨w0.heap.size, 1, none⟩ = some (.int .i64 at_) := blk_cell tk1 1
  have c2 : w1.cell? ⟨w0.heap.size, 2, none⟩ = some (.int .i64 n) := blk_cell tk1 2
  have c3 : w1.cell? ⟨w0.heap.size, 3, none⟩ = some (.string s) := blk_cell tk1 3
  have K1 := Lib.hid (((KB.refl F0 w0).alloc _).trans k1)
  clear k1 tk1 TX hKF KF lf
  by_cases h1 : 0 ≤ at_
  case neg =>
    have d1 : decide ((0 : Int) ≤ at_) = false := decide_eq_false h1
    have HE : Hid (r = false) := Lib.hid (by rw [Hr.out, d1]; rfl)
    clear h1
    go_wp2_with fail
    go_ret
    exact ⟨ret_eq (by rw [HE.out]; rfl), K1.out⟩
  case pos =>
  have d1 : decide ((0 : Int) ≤ at_) = true := decide_eq_true h1
  by_cases h2 : u.size ≤ 64
  case neg =>
    have d2 : decide ((u.size : Int) ≤ 64) = false := decide_eq_false (by omega)
    have HE : Hid (r = false) := Lib.hid (by rw [Hr.out, decide_eq_false h2]; simp)
    clear h1 h2
    go_wp2_with fail
    go_ret
    exact ⟨ret_eq (by rw [HE.out]; rfl), K1.out⟩
  case pos =>
  have d2 : decide ((u.size : Int) ≤ 64) = true := decide_eq_true (by omega)
  have Hr2 : Hid (r = (q3 && !blankB (byteAt u 0) && !blankB (byteAt u (u.size - 1)) && !Lib.contains u.data.toList [47, 47])) := Lib.hid (by rw [Hr.out, decide_eq_true h1, decide_eq_true h2]; rfl)
  have H2 := Lib.hid h2
  clear Hr h1 h2
  go_wp2_with fail
  refine (LK.out H2.out _ (K1.out.alloc _) _ (alloc_new _ _)).mono ?_
  rintro e w2 ⟨rfl, k2⟩
  have K2 := Lib.hid ((K1.out.alloc _).trans k2)
  clear k2 LK c0 c1 c2 c3
  cases q3
  · have HE : Hid (r = false) := Lib.hid (by rw [Hr2.out]; rfl)
    go_wp2_with fail
    go_ret
    exact ⟨ret_eq (by rw [HE.out]; rfl), K2.out⟩
  have hp := LP.out rfl
  obtain ⟨m, hm⟩ : ∃ m, u.size = m + 1 := ⟨u.size - 1, by omega⟩
  have b0 := byteAt_eq u 0 hp
  have hmlt : m < u.size := by omega
  have b1 := byteAt_eq u m hmlt
  have Hr3 : Hid (r = (!blankB (byteAt u 0) && !blankB (byteAt u m) && !Lib.contains u.data.toList [47, 47])) := Lib.hid (by rw [Hr2.out, hm, Nat.add_sub_cancel]; rfl)
  clear Hr2 LP
  have W1 : IntKind.i64.wrap ((u.size : Int) - 1) = (m : Int) := by rw [w64 (by omega) (by have := H2.out; omega)]; omega
  have i0 : (0 : Int) < (u.size : Int) := by omega
  have i1 : (m : Int) < (u.size : Int) := by omega
  have B0 := Lib.hid (fun (W : World) => BL.out (byteAt u 0) W)
  have B1 := Lib.hid (fun (W : World) => BL.out (byteAt u m) W)
  generalize byteAt u 0 = y0 at b0 B0 Hr3
  generalize byteAt u m = y1 at b1 B1 Hr3
  generalize blankB y0 = q4 at B0 Hr3
  generalize blankB y1 = q5 at B1 Hr3
  have HM := Lib.hid hm
  clear BL hm
  go_wp2_with fail
  refine (B0.out _).mono ?_
  rintro e w3 ⟨rfl, rfl⟩
  cases q4
  case true =>
    have HE : Hid (r = false) := Lib.hid (by rw [Hr3.out]; rfl)
    go_wp2_with fail
    go_ret
    exact ⟨ret_eq (by rw [HE.out]; rfl), K2.out⟩
  case false =>
  go_wp2_with fail
  refine (B1.out _).mono ?_
  rintro e w3 ⟨rfl, rfl⟩
  cases q5
  case true =>
    have HE : Hid (r = false) := Lib.hid (by rw [Hr3.out]; rfl)
    go_wp2_with fail
    go_ret
    exact ⟨ret_eq (by rw [HE.out]; rfl), K2.out⟩
  case false =>
  go_wp2_with fail
  refine (CN.out H2.out _ K2.out).mono ?_
  rintro e w3 ⟨rfl, hw⟩
  have hw := hw.symm
  subst hw
  have HE : Hid (r = !Lib.contains u.data.toList [47, 47]) := Lib.hid (by rw [Hr3.out]; rfl)
  go_wp2_with fail
  go_ret
  exact ⟨ret_eq (by rw [HE.out]; rfl), K2.out⟩
end Go.Proofs.YtcbifoimfhfccaaGreatDoor

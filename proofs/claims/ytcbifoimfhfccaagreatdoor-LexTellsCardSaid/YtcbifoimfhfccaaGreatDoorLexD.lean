/- The lexer's 'pass'. -/
import Derived.Test.YtcbifoimfhfccaaGreatDoorLexC
import Derived.Test.YtcbifoimfhfccaaGreatDoorShelfLex
import Derived.Lib.IndexBytes
namespace Go.Proofs.YtcbifoimfhfccaaGreatDoor
open Go.RowKit

theorem size_len (s : ByteArray) : s.data.toList.length = s.size := by simp
theorem byteAt_def (s : ByteArray) (i : Nat) : byteAt s i = (s.data.toList.getD i 0).toNat := rfl
theorem getD_of {l : List UInt8} {i : Nat} (h : i < l.length) : l.getD i 0 = l[i] := by rw [List.getD_eq_getElem?_getD, List.getElem?_eq_getElem h]; rfl
theorem pre_one (l : List UInt8) (a : UInt8) (i : Nat) : Lib.hasPrefix (l.drop i) [a] = (decide (i < l.length) && decide (l.getD i 0 = a)) := by
  unfold Lib.hasPrefix
  by_cases h : i < l.length
  · rw [List.drop_eq_getElem_cons h, getD_of h, Bool.eq_iff_iff]
    simp only [List.isPrefixOf, Bool.and_eq_true, beq_iff_eq, decide_eq_true_eq, and_true]
    exact ⟨fun e => ⟨h, e.symm⟩, fun e => e.2.symm⟩
  · rw [List.drop_of_length_le (by omega)]
    simp [List.isPrefixOf, h]
theorem pre_two (l : List UInt8) (a b : UInt8) (i : Nat) : Lib.hasPrefix (l.drop i) [a, b] = (decide (i + 1 < l.length) && decide (l.getD i 0 = a) && decide (l.getD (i + 1) 0 = b)) := by
  unfold Lib.hasPrefix
  by_cases h : i < l.length
  · rw [List.drop_eq_getElem_cons h]
    by_cases h2 : i + 1 < l.length
    · rw [List.drop_eq_getElem_cons h2, getD_of h, getD_of h2, Bool.eq_iff_iff]
      simp only [List.isPrefixOf, Bool.and_eq_true, beq_iff_eq, decide_eq_true_eq, and_true]
      exact ⟨fun e => ⟨⟨h2, e.1.symm⟩, e.2.symm⟩, fun e => ⟨e.1.2.symm, e.2.symm⟩⟩
    · rw [List.drop_of_length_le (by omega)]
      simp [List.isPrefixOf, h2]
  · rw [List.drop_of_length_le (by omega)]
    simp [List.isPrefixOf, show ¬ i + 1 < l.length by omega]
theorem u8_eq {a b : UInt8} : decide (a = b) = decide (a.toNat = b.toNat) := by
  rw [decide_eq_decide]
  exact ⟨fun h => by rw [h], fun h => UInt8.toNat_inj.1 h⟩
theorem pre_comm (s : ByteArray) (i : Nat) : Lib.hasPrefix (s.extract i s.size).data.toList [47, 47] = commB s i := by
  rw [Lib.extract_to_end, pre_two, u8_eq, u8_eq, size_len]; rfl
/-- The next byte 10 from a place on. -/
theorem lineF_index (s : ByteArray) : ∀ f i, i + f = s.size → lineF s f i = (if Lib.indexByte (s.data.toList.drop i) 10 < 0 then s.size else i + (Lib.indexByte (s.data.toList.drop i) 10).toNat) := by
  intro f
  induction f with
  | zero =>
    intro i h
    rw [List.drop_of_length_le (by rw [size_len]; omega)]
    simp [lineF, Lib.indexByte]; omega
  | succ f ih =>
    intro i h
    have hi : i < s.data.toList.length := by rw [size_len]; omega
    rw [List.drop_eq_getElem_cons hi]
    unfold lineF Lib.indexByte
    have e : byteAt s i = (s.data.toList[i]).toNat := by rw [byteAt_def, List.getD_eq_getElem?_getD, List.getElem?_eq_getElem hi]; rfl
    by_cases h10 : byteAt s i = 10
    · have : (s.data.toList[i] == 10) = true := by
        rw [beq_iff_eq]; exact UInt8.toNat_inj.1 (by rw [← e, h10]; rfl)
      rw [if_pos h10, this]
      simp
    · have : (s.data.toList[i] == 10) = false := by
        rw [beq_eq_false_iff_ne]; intro h; exact h10 (by rw [e, h]; rfl)
      rw [if_neg h10, this, ih (i + 1) (by omega)]
      have hge := Lib.indexByte_ge (s.data.toList.drop (i + 1)) 10
      by_cases hm : Lib.indexByte (s.data.toList.drop (i + 1)) 10 = -1
      · simp [hm]
      · have h0 : ¬ Lib.indexByte (s.data.toList.drop (i + 1)) 10 < 0 := by omega
        have hb : (Lib.indexByte (s.data.toList.drop (i + 1)) 10 == -1) = false := by simpa using hm
        rw [hb, if_neg h0]
        simp only [Bool.false_eq_true, if_false]
        rw [if_neg (by omega)]
        omega
theorem lineE_index (s : ByteArray) (i : Nat) (h : i ≤ s.size) : lineE s i = (if Lib.indexByte (s.extract i s.size).data.toList 10 < 0 then s.size else i + (Lib.indexByte (s.extract i s.size).data.toList 10).toNat) := by
  rw [Lib.extract_to_end]
  exact lineF_index s _ _ (by omega)
/-- Where a lexer stands. -/
def lxAt (w : World) (b : Nat) : Nat := match w.cell? ⟨b, 1, none⟩ with
  | some (.int _ n) => n.toNat
  | _ => 0
theorem LX.at_ {w : World} {b : Nat} {s : ByteArray} {i : Nat} {st : Bool} (h : LX w b s i st) : lxAt w b = i := by
  have c1 : w.cell? ⟨b, 1, none⟩ = some (.int .i64 i) := blk_cell h 1
  unfold lxAt
  rw [c1]
  exact Int.toNat_natCast i
theorem LX.go {w : World} {b : Nat} {s : ByteArray} {i : Nat} {st : Bool} (h : LX w b s i st) (j : Nat) : LX (w.setCell ⟨b, 1, none⟩ (.int .i64 j)) b s j st := setCell_blk (i := 1) h (.int .i64 j)
theorem LX.stuck {w : World} {b : Nat} {s : ByteArray} {i : Nat} {st : Bool} (h : LX w b s i st) (t : Bool) : LX (w.setCell ⟨b, 2, none⟩ (.bool t)) b s i t := setCell_blk (i := 2) h (.bool t)
theorem LX.drewN {w : World} {b : Nat} {s : ByteArray} {i : Nat} {st : Bool} (h : LX w b s i st) (n : Nat) : LX (w.drewN n) b s i st := h
abbrev SB (b : Nat) : Nat → Prop := fun k => k = b

set_option maxRecDepth 100000 in
set_option maxHeartbeats 4000000 in
theorem pass_any (b : Nat) (s : ByteArray) (i0 : Nat) (st : Bool) (hi0 : i0 ≤ s.size) (hs : s.size ≤ 65536) (w : World) (h : LX w b s i0 st) :
    Calls Tryz.prog 29 #[.pointer (some ⟨b, 0, none⟩)] w fun e w' => e = .returned (.tuple #[]) ∧
      ∃ j, i0 ≤ j ∧ j ≤ s.size ∧ LX w' b s j st ∧ (∀ l, lexG s i0 l = lexG s j l) ∧ (j < s.size → blankB (byteAt s j) = false ∧ commB s j = false) ∧ KB (SB b) w w' := by
  obtain ⟨w0, rfl⟩ : ∃ w0, w0 = w := ⟨_, rfl⟩
  have H := Lib.hid h
  clear h
  go_enter Tryz.func29, Tryz.ntmps29
  go_wp2_with fail
  go_loopw [] (fun wr => ∃ j, i0 ≤ j ∧ j ≤ s.size ∧ LX wr b s j st ∧ Hid (∀ l, lexG s i0 l = lexG s j l) ∧ KB (SB b) w0 wr) (fun wr => s.size - lxAt wr b)
  case atStart => exact ⟨i0, Nat.le_refl _, hi0, H.out, Lib.hid (fun l => rfl), KB.refl _ _⟩
  case round =>
    obtain ⟨j, hj1, hj2, hx, hl, hkb⟩ := hrel
    have c0 : wr.cell? ⟨b, 0, none⟩ = some (.string s) := blk_cell hx 0
    have c1 : wr.cell? ⟨b, 1, none⟩ = some (.int .i64 j) := blk_cell hx 1
    have f1 : wr.frozen? ⟨b, 1, none⟩ = false := blk_frozen hx 1
    have HX := Lib.hid (And.intro hx (And.intro hl hkb))
    clear hx hl hkb
    by_cases hlt : j < s.size
    · have d1 : decide ((j : Int) < (s.size : Int)) = true := decide_eq_true (by omega)
      have hb := byteAt_eq s j hlt
      have Hb := Lib.hid (lxBlank_any (byteAt s j))
      obtain ⟨p, hp⟩ : ∃ p, p = blankB (byteAt s j) := ⟨_, rfl⟩
      rw [← hp] at Hb
      have Hp := Lib.hid hp
      clear hp
      go_wp2_with fail
      refine wp_region_rv 10 GQ (kindV []) (by kernel_rfl) (by kernel_rfl) GQ.trans GQ.refl (GQ.start _) (kindV_mono _) ?_
      simp only [List.take_succ_cons, List.take_zero, List.drop_succ_cons, List.drop_zero]
      iterate 10 (refine rv_det (by kernel_rfl) rfl (by intro w hG hH; obtain ⟨n, rfl⟩ := hG; go_simp; first | done | with_reducible rfl) ?_; simp only [Act.put, List.setIfInBounds_toArray, List.set_cons_zero, List.set_cons_succ])
      refine rv_nil (fun w hG hH => ?_)
      obtain ⟨n, rfl⟩ := hG
      clear hH
      go_wp2_with fail
      refine wp_region_rv 11 GQ (kindV [(9, fun v => v = .bool p)]) (by kernel_rfl) (by kernel_rfl) GQ.trans GQ.refl (GQ.start _) (kindV_mono _) ?_
      simp only [List.take_succ_cons, List.take_zero, List.drop_succ_cons, List.drop_zero]
      iterate 9 (refine rv_det (by kernel_rfl) rfl (by intro w hG hH; obtain ⟨n, rfl⟩ := hG; go_simp; first | done | with_reducible rfl) ?_; simp only [Act.put, List.setIfInBounds_toArray, List.set_cons_zero, List.set_cons_succ])
      refine rv_rel (by kernel_rfl) rfl ⟨_, rfl⟩ (by
        intro w hG hH; obtain ⟨n, rfl⟩ := hG
        refine opVal_call (by go_simp; first | done | exact ⟨⟨rfl, rfl⟩, rfl⟩) ?_
        refine (Hb.out _).mono ?_
        rintro e w' ⟨rfl, hq⟩
        exact ⟨_, rfl, rfl, by (first | (obtain ⟨nq, rfl⟩ := hq) | subst hq); (try simp only [drew_eq1, drewN_drewN]); first | exact ⟨0, rfl⟩ | exact ⟨_, rfl⟩ | exact gq_le (by omega), trivial⟩) ?_
      rintro v rfl
      simp only [Act.put, List.setIfInBounds_toArray, List.set_cons_zero, List.set_cons_succ]
      refine rv_det (by kernel_rfl) rfl (by intro w hG hH; obtain ⟨n, rfl⟩ := hG; go_simp; first | done | with_reducible rfl) ?_
      simp only [Act.put, List.setIfInBounds_toArray, List.set_cons_zero, List.set_cons_succ]
      refine rv_nil (fun w hG hH => ?_)
      obtain ⟨n, rfl⟩ := hG
      clear hH
      cases p
      case true =>
        have HX2 := Lib.hid (fun n => And.intro ((HX.out.1.drewN n).go (j + 1)) (And.intro (fun l => (HX.out.2.1.out l).trans (lexG_blank hlt Hp.out.symm)) ((HX.out.2.2.drewN n).setCell (p := ⟨b, 1, none⟩) (fun _ => rfl) (.int .i64 ((j + 1 : Nat) : Int)))))
        go_wp2
        go_roundw
        case rel =>
          have h2 := HX2.out
          push_cast at h2
          exact ⟨j + 1, by omega, by omega, (h2 _).1, Lib.hid (h2 0).2.1, (h2 _).2.2⟩
        case measure =>
          have h2 := fun n => (HX2.out n).1.at_
          have h1 := HX.out.1.at_
          push_cast at h2
          rw [h1, h2]; omega
      case false =>
        have Hc := pre_comm s j
        obtain ⟨c, hc⟩ : ∃ c, c = commB s j := ⟨_, rfl⟩
        rw [← hc] at Hc
        have HC := Lib.hid hc
        have HP := Lib.hid (fun (w : World) => Tryz.strings_HasPrefix (s.extract j s.size) ⟨#[47, 47]⟩ w)
        clear hc
        go_wp2_with fail
        refine wp_region_rv 11 GQ (kindV [(9, fun v => v = .bool c)]) (by kernel_rfl) (by kernel_rfl) GQ.trans GQ.refl (GQ.start _) (kindV_mono _) ?_
        simp only [List.take_succ_cons, List.take_zero, List.drop_succ_cons, List.drop_zero]
        iterate 9 (refine rv_det (by kernel_rfl) rfl (by intro w hG hH; obtain ⟨n, rfl⟩ := hG; go_simp; first | done | with_reducible rfl) ?_; simp only [Act.put, List.setIfInBounds_toArray, List.set_cons_zero, List.set_cons_succ])
        refine rv_rel (by kernel_rfl) rfl ⟨_, rfl⟩ (by
          intro w hG hH; obtain ⟨n, rfl⟩ := hG
          refine opVal_call (by go_simp; first | done | exact ⟨⟨rfl, rfl⟩, rfl⟩) ?_
          refine ((HP.out _).mono (fun e w' h => (by rw [Hc] at h; exact h : e = .returned (.bool c) ∧ w' = _))).mono ?_
          rintro e w' ⟨rfl, hq⟩
          exact ⟨_, rfl, rfl, by (first | (obtain ⟨nq, rfl⟩ := hq) | subst hq); (try simp only [drew_eq1, drewN_drewN]); first | exact ⟨0, rfl⟩ | exact ⟨_, rfl⟩ | exact gq_le (by omega), trivial⟩) ?_
        rintro v rfl
        simp only [Act.put, List.setIfInBounds_toArray, List.set_cons_zero, List.set_cons_succ]
        refine rv_det (by kernel_rfl) rfl (by intro w hG hH; obtain ⟨n, rfl⟩ := hG; go_simp; first | done | with_reducible rfl) ?_
        simp only [Act.put, List.setIfInBounds_toArray, List.set_cons_zero, List.set_cons_succ]
        refine rv_nil (fun w hG hH => ?_)
        obtain ⟨n, rfl⟩ := hG
        clear hH
        cases c
        case true =>
          have HI := Lib.hid (fun (w : World) => Tryz.strings_IndexByte (s.extract j s.size) 10 w)
          have hle := lineE_index s j hj2
          have hlt2 := lineE_lt HC.out.symm
          have hge := Lib.indexByte_ge (s.extract j s.size).data.toList 10
          obtain ⟨z, hz⟩ : ∃ z, z = Lib.indexByte (s.extract j s.size).data.toList (10 : Int).toNat.toUInt8 := ⟨_, rfl⟩
          have hz' : Lib.indexByte (s.extract j s.size).data.toList 10 = z := by rw [hz]; rfl
          rw [hz'] at hle hge
          have Hz := Lib.hid hz
          have HX2 := Lib.hid (fun n => And.intro ((HX.out.1.drewN n).go (lineE s j)) (And.intro (fun l => (HX.out.2.1.out l).trans (lexG_comm hlt Hp.out.symm HC.out.symm)) ((HX.out.2.2.drewN n).setCell (p := ⟨b, 1, none⟩) (fun _ => rfl) (.int .i64 (lineE s j : Nat)))))
          obtain ⟨E, hE⟩ : ∃ E, E = lineE s j := ⟨_, rfl⟩
          rw [← hE] at hle hlt2 HX2
          clear hz hz' hE
          go_wp2_with fail
          refine wp_region_rv 11 GQ (kindV [(9, fun v => v = .int .i64 z)]) (by kernel_rfl) (by kernel_rfl) GQ.trans GQ.refl (GQ.start _) (kindV_mono _) ?_
          simp only [List.take_succ_cons, List.take_zero, List.drop_succ_cons, List.drop_zero]
          iterate 9 (refine rv_det (by kernel_rfl) rfl (by intro w hG hH; obtain ⟨n, rfl⟩ := hG; go_simp; first | done | with_reducible rfl) ?_; simp only [Act.put, List.setIfInBounds_toArray, List.set_cons_zero, List.set_cons_succ])
          refine rv_rel (by kernel_rfl) rfl ⟨_, rfl⟩ (by
            intro w hG hH; obtain ⟨n, rfl⟩ := hG
            refine opVal_call (by go_simp; first | done | exact ⟨⟨rfl, rfl⟩, rfl⟩) ?_
            refine ((HI.out _).mono (fun e w' h => (by rw [← Hz.out] at h; exact h : e = .returned (.int .i64 z) ∧ w' = _))).mono ?_
            rintro e w' ⟨rfl, hq⟩
            exact ⟨_, rfl, rfl, by (first | (obtain ⟨nq, rfl⟩ := hq) | subst hq); (try simp only [drew_eq1, drewN_drewN]); first | exact ⟨0, rfl⟩ | exact ⟨_, rfl⟩ | exact gq_le (by omega), trivial⟩) ?_
          rintro v rfl
          simp only [Act.put, List.setIfInBounds_toArray, List.set_cons_zero, List.set_cons_succ]
          refine rv_det (by kernel_rfl) rfl (by intro w hG hH; obtain ⟨n, rfl⟩ := hG; go_simp; first | done | with_reducible rfl) ?_
          simp only [Act.put, List.setIfInBounds_toArray, List.set_cons_zero, List.set_cons_succ]
          refine rv_nil (fun w hG hH => ?_)
          obtain ⟨n, rfl⟩ := hG
          clear hH
          by_cases hneg : z < 0
          · have q1 : decide (z < 0) = true := decide_eq_true hneg
            rw [if_pos hneg] at hle
            have HLE := Lib.hid hle
            have w1 : IntKind.i64.wrap ((s.size : Int) - (j : Int)) = (s.size : Int) - (j : Int) := w64 (by omega) (by omega)
            have w2 : IntKind.i64.wrap ((j : Int) + ((s.size : Int) - (j : Int))) = (E : Int) := by rw [hle]; exact (w64 (by omega) (by omega)).trans (by omega)
            have w3 : IntKind.i64.wrap (s.size : Int) = (E : Int) := by rw [hle]; exact w64 (by omega) (by omega)
            clear hle
            go_wp2_with fail
            refine wp_region_rv 11 GQ (kindV []) (by kernel_rfl) (by kernel_rfl) GQ.trans GQ.refl (GQ.start _) (kindV_mono _) ?_
            simp only [List.take_succ_cons, List.take_zero, List.drop_succ_cons, List.drop_zero]
            iterate 11 (refine rv_det (by kernel_rfl) rfl (by intro w hG hH; obtain ⟨n, rfl⟩ := hG; go_simp; first | done | with_reducible rfl) ?_; simp only [Act.put, List.setIfInBounds_toArray, List.set_cons_zero, List.set_cons_succ])
            refine rv_nil (fun w hG hH => ?_)
            obtain ⟨n, rfl⟩ := hG
            clear hH
            go_wp2
            go_roundw
            case rel => exact ⟨E, by omega, hlt2.2, (HX2.out _).1, Lib.hid (HX2.out 0).2.1, (HX2.out _).2.2⟩
            case measure =>
              have h1 := HX.out.1.at_
              rw [h1, (HX2.out _).1.at_]; omega
          · have q1 : decide (z < 0) = false := decide_eq_false hneg
            rw [if_neg hneg] at hle
            have w2 : IntKind.i64.wrap ((j : Int) + z) = (E : Int) := by rw [hle]; exact (w64 (by omega) (by omega)).trans (by omega)
            clear hle
            go_wp2
            go_roundw
            case rel => exact ⟨E, by omega, hlt2.2, (HX2.out _).1, Lib.hid (HX2.out 0).2.1, (HX2.out _).2.2⟩
            case measure =>
              have h1 := HX.out.1.at_
              rw [h1, (HX2.out _).1.at_]; omega
        case false =>
          go_wp2
          refine bodyPost_ret (results_none rfl _ _ _) rfl ?_
          exact ⟨rfl, j, hj1, hj2, HX.out.1, HX.out.2.1.out, fun _ => ⟨Hp.out.symm, HC.out.symm⟩, (HX.out.2.2.drewN _).drewN _⟩
    · obtain rfl : j = s.size := by omega
      have d1 : decide ((s.size : Int) < (s.size : Int)) = false := decide_eq_false (by omega)
      have HF := Lib.hid (fun n => And.intro (HX.out.1.drewN n) (And.intro HX.out.2.1.out (HX.out.2.2.drewN n)))
      go_wp2_with fail
      refine wp_region_rv 10 GQ (kindV []) (by kernel_rfl) (by kernel_rfl) GQ.trans GQ.refl (GQ.start _) (kindV_mono _) ?_
      simp only [List.take_succ_cons, List.take_zero, List.drop_succ_cons, List.drop_zero]
      iterate 10 (refine rv_det (by kernel_rfl) rfl (by intro w hG hH; obtain ⟨n, rfl⟩ := hG; go_simp; first | done | with_reducible rfl) ?_; simp only [Act.put, List.setIfInBounds_toArray, List.set_cons_zero, List.set_cons_succ])
      refine rv_nil (fun w hG hH => ?_)
      obtain ⟨n, rfl⟩ := hG
      clear hH
      go_wp2
      go_end0
      exact ⟨rfl, s.size, hj1, hj2, (HF.out _).1, (HF.out 0).2.1, fun h => by omega, (HF.out _).2.2⟩
end Go.Proofs.YtcbifoimfhfccaaGreatDoor

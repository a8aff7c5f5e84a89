/- loanwordlaw09.PlaceTypes. -/
import Derived.Test.YtpigppghcghpbaaGreatDoorMg33
import Derived.Test.YtpigppghcghpbaaGreatDoorMg41
import Derived.Test.YtpigppghcghpbaaGreatDoorPwEb
import Derived.Test.YtpigppghcghpbaaGreatDoorPwI
import Derived.Test.YtpigppghcghpbaaGreatDoorPwW
import Derived.Test.YtpigppghcghpbaaGreatDoorMg46
import Derived.Test.YtpigppghcghpbaaGreatDoorPlG
namespace Go.Proofs.YtpigppghcghpbaaGreatDoor
open Go.RowKit

/-- What a place answered owns, wherever it is held. -/
def HeldF (x : Int) (n B : Nat) (xs : List Int) (v : Value) (w : World) : Prop := ∀ a c, v = .agg #[.int .i64 x, .slice a n c] → OwnI w B (.slice a n c) xs
theorem lasts_held (x : Int) (n B : Nat) (xs : List Int) : Lasts (HeldF x n B xs) := fun _ _ _ hG h a c e => (h a c e).kbF hG
theorem ownT_top {n : Nat} {w : World} {B : Nat} {t : Ty} {a : Option Addr} {c : Nat} (h : OwnT n w B t a c) {k : Nat} (hk : a = some ⟨k, 0, none⟩) : B ≤ k ∧ k < w.heap.size := by
  cases n with
  | zero => rw [h.2.1] at hk; cases hk
  | succ n =>
    rcases h with h | ⟨h1, g, a', c', h2, h3, h4, h5, h6⟩
    · rw [h.2.1] at hk; cases hk
    · rw [h2] at hk
      simp only [Option.some.injEq, Addr.mk.injEq, and_true] at hk
      subst hk
      exact ⟨h4, heap_lt h5⟩
theorem zero_at (w : World) : PlAt w ⟨0, []⟩ none 0 := ⟨fun k hk => by simp at hk, Nat.zero_le _, by show (0:Nat) ≤ 100000; omega⟩
set_option maxRecDepth 100000 in
set_option maxHeartbeats 64000000 in
theorem typesLaw_any (S : List (List Ty)) (sa : Option Addr) (sc : Nat) (hsc : S.length ≤ sc) (L : List Ty) (la : Option Addr) (lc : Nat) (p : Pl) (ap : Option Addr) (cp : Nat) (w : World) (hT : TabP w) (hS : StsAt 61 w sa S) (hL : TysAt 61 w la L) (hp : IntsAt w ap p.path) (hcp : p.path.length ≤ cp) :
    Calls Tryz.prog 8 #[.slice sa S.length sc, .slice la L.length lc, plV p ap cp] w fun e w' => e = .returned (.bool true) ∧ KB F0 w w' := by
  obtain ⟨w0, rfl⟩ : ∃ w0, w0 = w := ⟨_, rfl⟩
  obtain ⟨Np, hNp⟩ : ∃ N, N = p.path.length := ⟨_, rfl⟩
  obtain ⟨lp, hlp⟩ : ∃ x, x = p.loc := ⟨_, rfl⟩
  obtain ⟨nS, hnS⟩ : ∃ n, n = S.length := ⟨_, rfl⟩
  obtain ⟨nL, hnL⟩ : ∃ n, n = L.length := ⟨_, rfl⟩
  obtain ⟨hk2, hb1, hb2⟩ := new2 w0 #[.int .i64 lp, .slice ap Np cp] #[.int .i64 lp, .slice ap Np cp] 26 26
  obtain ⟨W, hW⟩ : ∃ W, W = ((w0.alloc (.cells #[.int .i64 lp, .slice ap Np cp] 26)).alloc (.cells #[.int .i64 lp, .slice ap Np cp] 26)) := ⟨_, rfl⟩
  rw [← hW] at hk2 hb1 hb2
  have FT := Lib.hid (fits_any S sa sc L la lc 1 (by omega) (fun _ => Np) (w0.heap.size + 1) W (hS.kbF hk2) (hL.kbF hk2) (fun k hk => by
    obtain rfl : k = 0 := by omega
    exact ⟨ap, cp, blk_cell hb2 1⟩))
  have HB := Lib.hid (And.intro hk2 (And.intro (show W.cell? ⟨w0.heap.size, 0, none⟩ = some (.int .i64 lp) from blk_cell hb1 0) (show W.cell? ⟨w0.heap.size, 1, none⟩ = some (.slice ap Np cp) from blk_cell hb1 1)))
  have AW := Lib.hid (fun (V : World) (hk : KB F0 W V) => awake_any V (hT.kb (hk2.trans hk)))
  have HP := Lib.hid (fun (hl : Np ≤ 60) (V : World) (hk : KB F0 W V) => (show PlAt V p ap cp from ⟨hp.kbF (hk2.trans hk), hcp, by omega⟩))
  have HSL := Lib.hid (fun (V : World) (hk : KB F0 W V) => And.intro ((hS.le (show 49 ≤ 61 by omega)).kbF (hk2.trans hk)) ((hL.le (show 49 ≤ 61 by omega)).kbF (hk2.trans hk)))
  have HW := Lib.hid hW
  have HN := Lib.hid (And.intro hNp (And.intro hlp (And.intro hnS (And.intro hnL hsc))))
  have ep : ∀ a c, plV p a c = .agg #[.int .i64 lp, .slice a Np c] := fun a c => by rw [hlp, hNp]; rfl
  rw [ep, ← hnS, ← hnL]
  rw [← hnS, ← hnL] at FT
  have HE := Lib.hid ep
  clear hk2 hb1 hb2 hW hT hp hcp hNp hlp ep hnS hnL hS hL hsc
  go_enter Tryz.func8, Tryz.ntmps8
  go_wp2_with fail
  rw [← HW.out]
  refine FT.out.mono ?_
  rintro e w1 ⟨ok, rfl, hF, k1⟩
  have HF := Lib.hid hF
  have K1 := Lib.hid k1
  clear hF k1 FT
  cases ok
  case false =>
    go_wp2_with fail
    refine (AW.out _ K1.out).mono ?_
    rintro e w2 ⟨rfl, k2⟩
    have K2 := Lib.hid (HB.out.1.trans (K1.out.trans k2))
    clear k2
    go_wp2_with fail
    go_ret
    exact ⟨rfl, K2.out⟩
  have HFS : Hid (FitsS S L 1 (fun _ => Np)) := Lib.hid (HF.out rfl)
  have hNp60 : Np ≤ 60 := HFS.out.p 0 (by omega)
  have hS1 : S.length ≤ 1000000 := by have := HFS.out.s; omega
  have hL1 : L.length ≤ 1000000 := by have := HFS.out.l; omega
  have hF1 : ∀ i, (fds S i).length ≤ 1000000 := fun i => by have := HFS.out.f i; omega
  have hsc := HN.out.2.2.2.2
  have LP := lent_nw p ap cp w1 (HP.out hNp60 w1 K1.out)
  rw [HE.out] at LP
  have p0 := K1.out.cell (p := ⟨w0.heap.size, 0, none⟩) (fun x => x) HB.out.2.1
  have p1 := K1.out.cell (p := ⟨w0.heap.size, 1, none⟩) (fun x => x) HB.out.2.2
  go_wp2_with fail
  refine LP.mono ?_
  rintro e w2 ⟨v, rfl, ⟨g, d, rfl, hd⟩, k2, hlw⟩
  have hown := hlw w1.heap.size (0, 0) (Nat.le_refl _) g d rfl
  simp only [← HN.out.1, ← HN.out.2.1] at hown hd ⊢
  have ka := (KB.refl F0 w2).alloc (.cells #[.int .i64 lp, .slice (some ⟨g, 0, none⟩) Np d] 26)
  have hbo := alloc_new w2 (.cells #[.int .i64 lp, .slice (some ⟨g, 0, none⟩) Np d] 26)
  obtain ⟨w3, hw3⟩ : ∃ q, q = w2.alloc (.cells #[.int .i64 lp, .slice (some ⟨g, 0, none⟩) Np d] 26) := ⟨_, rfl⟩
  rw [← hw3] at ka hbo
  obtain ⟨O, hO⟩ : ∃ X, X = w2.heap.size := ⟨_, rfl⟩
  rw [← hO] at hbo
  have K3 := Lib.hid (K1.out.trans (k2.trans ka))
  have hOlo : w1.heap.size ≤ O := by rw [hO]; exact k2.size
  have LA0 : LentAt w3 w1.heap.size p.loc p.path.length p.path O g d := ⟨hOlo, by rw [← HN.out.1, ← HN.out.2.1]; exact hbo, by rw [← HN.out.1]; exact hd, own_kb (by rw [← HN.out.1]; exact hown) ka (fun _ _ x => x)⟩
  have LA := Lib.hid LA0
  have LA2 : Hid (LentAt w3 w1.heap.size lp Np p.path O g d) := Lib.hid ⟨hOlo, hbo, hd, own_kb hown ka (fun _ _ x => x)⟩
  have HW3 := Lib.hid (And.intro hw3 hO)
  have hs1 : p.path.length ≤ 100000 := by rw [← HN.out.1]; omega
  have PO := Lib.hid (fun (V : World) (hk : KB F0 w3 V) => (LA.out.kbF hk).pl hs1)
  have PP := Lib.hid (fun (V : World) (hk : KB F0 w3 V) => HP.out hNp60 V (K3.out.trans hk))
  have SL := Lib.hid (fun (V : World) (hk : KB F0 w3 V) => HSL.out V (K3.out.trans hk))
  have CT := fun (V : World) (hk : KB F0 w3 V) => plType_any S hS1 hF1 sa sc hsc L hL1 la lc p (some ⟨g, 0, none⟩) d V (SL.out V hk).1 (SL.out V hk).2 (PO.out V hk)
  have CG := fun (V : World) (hk : KB F0 w3 V) => plGoes_any S hS1 hF1 sa sc hsc L hL1 la lc p (some ⟨g, 0, none⟩) d V (SL.out V hk).1 (SL.out V hk).2 (PO.out V hk)
  have CH := fun (V : World) (hk : KB F0 w3 V) => plHeld_any S hS1 hF1 sa sc hsc L hL1 la lc p (some ⟨g, 0, none⟩) d V (SL.out V hk).1 (SL.out V hk).2 (PO.out V hk)
  have CM := fun (V : World) (hk : KB F0 w3 V) => plMay_any S hS1 hF1 sa sc hsc L hL1 la lc p (some ⟨g, 0, none⟩) d V (SL.out V hk).1 (SL.out V hk).2 (PO.out V hk)
  have CW := fun (V : World) (hk : KB F0 w3 V) => rwWalkB_any S hS1 hF1 sa sc hsc L hL1 la lc p ap cp w3 V hk (SL.out w3 (KB.refl _ _)).1 (SL.out w3 (KB.refl _ _)).2 (PP.out V hk)
  have CR := fun (V : World) (hk : KB F0 w3 V) (hv : (wkP S L p).isSome = true) => rwHeld_any S hS1 hF1 sa sc hsc L hL1 la lc p ap cp V (SL.out V hk).1 (SL.out V hk).2 (PP.out V hk) hv
  have CK := fun (V : World) (hl : LentAt V w1.heap.size p.loc p.path.length p.path O g d) (hk : KB F0 w3 V) => hl.kept ap cp (PP.out V hk)
  simp only [HE.out, ← HN.out.2.2.1, ← HN.out.2.2.2.1] at CT CG CH CM CW CR CK
  simp only [← HN.out.1, ← HN.out.2.1] at CK
  have HLEN := Lib.hid (hows_len (S := S) (L := L) (q := p))
  have DT := Lib.hid CT
  have DG := Lib.hid CG
  have DH := Lib.hid CH
  have DM := Lib.hid CM
  have DW := Lib.hid CW
  have DR := Lib.hid CR
  have DK := Lib.hid CK
  have HC := Lib.hid (And.intro (And.intro (show w3.cell? ⟨O, 0, none⟩ = some (.int .i64 lp) from blk_cell hbo 0) (show w3.cell? ⟨O, 1, none⟩ = some (.slice (some ⟨g, 0, none⟩) Np d) from blk_cell hbo 1)) (And.intro (K3.out.cell (p := ⟨w0.heap.size, 0, none⟩) (fun x => x) HB.out.2.1) (K3.out.cell (p := ⟨w0.heap.size, 1, none⟩) (fun x => x) HB.out.2.2)))
  have J3 := Lib.hid (KB.refl F0 w3)
  clear CT CG CH CM CW CR CK hs1 LA0 LP hown ka hbo hw3 hO p0 p1 k2 hS1 hL1 hF1 hsc hlw
  obtain ⟨o, hwk'⟩ : ∃ o, o = wkP S L p := ⟨_, rfl⟩
  rw [← hwk'] at HLEN DT DG DH DM DW DR
  have hwk := hwk'.symm
  clear hwk'
  cases o with
  | none =>
    have SZ := fun V => (sameTy_zero ty0 none none 0 0 V rfl : Calls Tryz.prog 33 #[.agg #[.int .u8 0, .bool false, .int .i64 0, .int .i64 0, .slice none 0 0], .agg #[.int .u8 0, .bool false, .int .i64 0, .int .i64 0, .slice none 0 0]] V fun e w' => e = .returned (.bool true) ∧ KB F0 V w')
    have SM : ∀ V, Calls Tryz.prog 21 #[.agg #[.int .i64 0, .slice none 0 0], .agg #[.int .i64 0, .slice none 0 0]] V fun e w' => e = .returned (.bool true) ∧ KB F0 V w' := fun V => by
      have h := rsame_any ⟨0, []⟩ ⟨0, []⟩ none none 0 0 V (zero_at V) (zero_at V)
      rw [show decide (ordP ⟨0, []⟩ ⟨0, []⟩ = 0) = true from decide_eq_true (ordP_zero.2 ⟨rfl, rfl⟩)] at h
      exact h
    have TyE : ∀ {V : World} {e : Ending} {w' : World}, TypEnd none V e w' → e = .returned (.tuple #[.agg #[.int .u8 0, .bool false, .int .i64 0, .int .i64 0, .slice none 0 0], .int .i64 2]) ∧ KB F0 V w' := fun h => ⟨h.2, h.1⟩
    have GoE : ∀ {V : World} {e : Ending} {w' : World}, GoEnd none V e w' → e = .returned (.tuple #[.slice none 0 0, .int .i64 2]) ∧ KB F0 V w' := fun h => ⟨h.2, h.1⟩
    have HeE : ∀ {V : World} {e : Ending} {w' : World}, HeldV V p none e w' → e = .returned (.tuple #[.agg #[.int .i64 0, .slice none 0 0], .int .i64 2]) ∧ KB F0 V w' := fun h => ⟨h.2, h.1⟩
    have WkE : ∀ {V : World} {e : Ending} {w' : World}, WkEndB S w3 V none e w' → e = .returned (.tuple #[.agg #[.int .u8 0, .bool false, .int .i64 0, .int .i64 0, .slice none 0 0], .slice none 0 0, .bool false]) ∧ KB F0 V w' := fun h => ⟨h.2, h.1⟩
    have o0 : (w2.alloc (.cells #[.int .i64 lp, .slice (some ⟨g, 0, none⟩) Np d] 26)).cell? ⟨O, 0, none⟩ = some (.int .i64 lp) := by rw [← HW3.out.1]; exact J3.out.cell (p := ⟨O, 0, none⟩) (fun x => x) HC.out.1.1
    have o1 : (w2.alloc (.cells #[.int .i64 lp, .slice (some ⟨g, 0, none⟩) Np d] 26)).cell? ⟨O, 1, none⟩ = some (.slice (some ⟨g, 0, none⟩) Np d) := by rw [← HW3.out.1]; exact J3.out.cell (p := ⟨O, 1, none⟩) (fun x => x) HC.out.1.2
    go_wp2_with fail
    rw [← HW3.out.1, ← HW3.out.2]
    refine (DT.out _ J3.out).mono ?_
    intro e w4 hE
    obtain ⟨rfl, k4⟩ := TyE hE
    clear hE o0 o1
    have ka := (KB.refl F0 w4).alloc (.cells #[.int .u8 0, .bool false, .int .i64 0, .int .i64 0, .slice none 0 0] 36)
    have hbx := alloc_new w4 (.cells #[.int .u8 0, .bool false, .int .i64 0, .int .i64 0, .slice none 0 0] 36)
    obtain ⟨w5, hw⟩ : ∃ q, q = w4.alloc (.cells #[.int .u8 0, .bool false, .int .i64 0, .int .i64 0, .slice none 0 0] 36) := ⟨_, rfl⟩
    rw [← hw] at ka hbx
    obtain ⟨T, hX⟩ : ∃ X, X = w4.heap.size := ⟨_, rfl⟩
    rw [← hX] at hbx
    have J5 := Lib.hid (J3.out.trans (k4.trans ka))
    have S5 := Lib.hid (k4.trans ka)
    have R5 := Lib.hid ka
    have P4 := Lib.hid k4
    have HXT := Lib.hid (And.intro hw (And.intro hX hbx))
    clear hw hX hbx ka k4
    have o0 : (w4.alloc (.cells #[.int .u8 0, .bool false, .int .i64 0, .int .i64 0, .slice none 0 0] 36)).cell? ⟨O, 0, none⟩ = some (.int .i64 lp) := by rw [← HXT.out.1]; exact J5.out.cell (p := ⟨O, 0, none⟩) (fun x => x) HC.out.1.1
    have o1 : (w4.alloc (.cells #[.int .u8 0, .bool false, .int .i64 0, .int .i64 0, .slice none 0 0] 36)).cell? ⟨O, 1, none⟩ = some (.slice (some ⟨g, 0, none⟩) Np d) := by rw [← HXT.out.1]; exact J5.out.cell (p := ⟨O, 1, none⟩) (fun x => x) HC.out.1.2
    go_wp2_with fail
    rw [← HXT.out.1, ← HXT.out.2.1]
    refine (DT.out _ J5.out).mono ?_
    intro e w6 hE
    obtain ⟨rfl, k6⟩ := TyE hE
    clear hE o0 o1
    have ka := (KB.refl F0 w6).alloc (.cells #[.int .u8 0, .bool false, .int .i64 0, .int .i64 0, .slice none 0 0] 36)
    have hbx := alloc_new w6 (.cells #[.int .u8 0, .bool false, .int .i64 0, .int .i64 0, .slice none 0 0] 36)
    obtain ⟨w7, hw⟩ : ∃ q, q = w6.alloc (.cells #[.int .u8 0, .bool false, .int .i64 0, .int .i64 0, .slice none 0 0] 36) := ⟨_, rfl⟩
    rw [← hw] at ka hbx
    obtain ⟨U, hX⟩ : ∃ X, X = w6.heap.size := ⟨_, rfl⟩
    rw [← hX] at hbx
    have J7 := Lib.hid (J5.out.trans (k6.trans ka))
    have S7 := Lib.hid (k6.trans ka)
    have R7 := Lib.hid ka
    have P6 := Lib.hid k6
    have HXU := Lib.hid (And.intro hw (And.intro hX hbx))
    clear hw hX hbx ka k6
    have o0 : (w6.alloc (.cells #[.int .u8 0, .bool false, .int .i64 0, .int .i64 0, .slice none 0 0] 36)).cell? ⟨O, 0, none⟩ = some (.int .i64 lp) := by rw [← HXU.out.1]; exact J7.out.cell (p := ⟨O, 0, none⟩) (fun x => x) HC.out.1.1
    have o1 : (w6.alloc (.cells #[.int .u8 0, .bool false, .int .i64 0, .int .i64 0, .slice none 0 0] 36)).cell? ⟨O, 1, none⟩ = some (.slice (some ⟨g, 0, none⟩) Np d) := by rw [← HXU.out.1]; exact J7.out.cell (p := ⟨O, 1, none⟩) (fun x => x) HC.out.1.2
    go_wp2_with fail
    rw [← HXU.out.1, ← HXU.out.2.1]
    refine (DG.out _ J7.out).mono ?_
    intro e w8 hE
    obtain ⟨rfl, k8⟩ := GoE hE
    clear hE o0 o1
    have J8 := Lib.hid (J7.out.trans k8)
    have S8 := Lib.hid k8
    clear k8
    have o0 := J8.out.cell (p := ⟨O, 0, none⟩) (fun x => x) HC.out.1.1
    have o1 := J8.out.cell (p := ⟨O, 1, none⟩) (fun x => x) HC.out.1.2
    go_wp2_with fail
    refine (DH.out _ J8.out).mono ?_
    intro e w9 hE
    obtain ⟨rfl, k9⟩ := HeE hE
    clear hE o0 o1
    have ka := (KB.refl F0 w9).alloc (.cells #[.int .i64 0, .slice none 0 0] 26)
    have hbx := alloc_new w9 (.cells #[.int .i64 0, .slice none 0 0] 26)
    obtain ⟨w10, hw⟩ : ∃ q, q = w9.alloc (.cells #[.int .i64 0, .slice none 0 0] 26) := ⟨_, rfl⟩
    rw [← hw] at ka hbx
    obtain ⟨A, hX⟩ : ∃ X, X = w9.heap.size := ⟨_, rfl⟩
    rw [← hX] at hbx
    have J10 := Lib.hid (J8.out.trans (k9.trans ka))
    have S10 := Lib.hid (k9.trans ka)
    have R10 := Lib.hid ka
    have P9 := Lib.hid k9
    have HXA := Lib.hid (And.intro hw (And.intro hX hbx))
    clear hw hX hbx ka k9
    have o0 : (w9.alloc (.cells #[.int .i64 0, .slice none 0 0] 26)).cell? ⟨O, 0, none⟩ = some (.int .i64 lp) := by rw [← HXA.out.1]; exact J10.out.cell (p := ⟨O, 0, none⟩) (fun x => x) HC.out.1.1
    have o1 : (w9.alloc (.cells #[.int .i64 0, .slice none 0 0] 26)).cell? ⟨O, 1, none⟩ = some (.slice (some ⟨g, 0, none⟩) Np d) := by rw [← HXA.out.1]; exact J10.out.cell (p := ⟨O, 1, none⟩) (fun x => x) HC.out.1.2
    go_wp2_with fail
    rw [← HXA.out.1, ← HXA.out.2.1]
    refine (DH.out _ J10.out).mono ?_
    intro e w11 hE
    obtain ⟨rfl, k11⟩ := HeE hE
    clear hE o0 o1
    have ka := (KB.refl F0 w11).alloc (.cells #[.int .i64 0, .slice none 0 0] 26)
    have hbx := alloc_new w11 (.cells #[.int .i64 0, .slice none 0 0] 26)
    obtain ⟨w12, hw⟩ : ∃ q, q = w11.alloc (.cells #[.int .i64 0, .slice none 0 0] 26) := ⟨_, rfl⟩
    rw [← hw] at ka hbx
    obtain ⟨B, hX⟩ : ∃ X, X = w11.heap.size := ⟨_, rfl⟩
    rw [← hX] at hbx
    have J12 := Lib.hid (J10.out.trans (k11.trans ka))
    have S12 := Lib.hid (k11.trans ka)
    have R12 := Lib.hid ka
    have P11 := Lib.hid k11
    have HXB := Lib.hid (And.intro hw (And.intro hX hbx))
    clear hw hX hbx ka k11
    have p0 : (w11.alloc (.cells #[.int .i64 0, .slice none 0 0] 26)).cell? ⟨w0.heap.size, 0, none⟩ = some (.int .i64 lp) := by rw [← HXB.out.1]; exact J12.out.cell (p := ⟨w0.heap.size, 0, none⟩) (fun x => x) HC.out.2.1
    have p1 : (w11.alloc (.cells #[.int .i64 0, .slice none 0 0] 26)).cell? ⟨w0.heap.size, 1, none⟩ = some (.slice ap Np cp) := by rw [← HXB.out.1]; exact J12.out.cell (p := ⟨w0.heap.size, 1, none⟩) (fun x => x) HC.out.2.2
    go_wp2_with fail
    rw [← HXB.out.1, ← HXB.out.2.1]
    refine (DW.out _ J12.out).mono ?_
    intro e w13 hE
    obtain ⟨rfl, k13⟩ := WkE hE
    clear hE p0 p1
    have ka := (KB.refl F0 w13).alloc (.cells #[.int .u8 0, .bool false, .int .i64 0, .int .i64 0, .slice none 0 0] 36)
    have hbx := alloc_new w13 (.cells #[.int .u8 0, .bool false, .int .i64 0, .int .i64 0, .slice none 0 0] 36)
    obtain ⟨w14, hw⟩ : ∃ q, q = w13.alloc (.cells #[.int .u8 0, .bool false, .int .i64 0, .int .i64 0, .slice none 0 0] 36) := ⟨_, rfl⟩
    rw [← hw] at ka hbx
    obtain ⟨Q, hX⟩ : ∃ X, X = w13.heap.size := ⟨_, rfl⟩
    rw [← hX] at hbx
    have J14 := Lib.hid (J12.out.trans (k13.trans ka))
    have S14 := Lib.hid (k13.trans ka)
    have R14 := Lib.hid ka
    have P13 := Lib.hid k13
    have HXQ := Lib.hid (And.intro hw (And.intro hX hbx))
    clear hw hX hbx ka k13
    have o0 : (w13.alloc (.cells #[.int .u8 0, .bool false, .int .i64 0, .int .i64 0, .slice none 0 0] 36)).cell? ⟨O, 0, none⟩ = some (.int .i64 lp) := by rw [← HXQ.out.1]; exact J14.out.cell (p := ⟨O, 0, none⟩) (fun x => x) HC.out.1.1
    have o1 : (w13.alloc (.cells #[.int .u8 0, .bool false, .int .i64 0, .int .i64 0, .slice none 0 0] 36)).cell? ⟨O, 1, none⟩ = some (.slice (some ⟨g, 0, none⟩) Np d) := by rw [← HXQ.out.1]; exact J14.out.cell (p := ⟨O, 1, none⟩) (fun x => x) HC.out.1.2
    go_wp2_with fail
    rw [← HXQ.out.1, ← HXQ.out.2.1]
    refine (DM.out _ J14.out).mono ?_
    rintro e w15 ⟨rfl, k15⟩
    have J15 := Lib.hid (J14.out.trans k15)
    have S15 := Lib.hid k15
    clear k15 o0 o1
    simp only [Option.isSome_none]
    have t0 : w15.cell? ⟨T, 0, none⟩ = some (.int .u8 0) := (S7.out.trans (S8.out.trans (S10.out.trans (S12.out.trans (S14.out.trans S15.out))))).cell (p := ⟨T, 0, none⟩) (fun x => x) (blk_cell HXT.out.2.2 0)
    have t1 : w15.cell? ⟨T, 1, none⟩ = some (.bool false) := (S7.out.trans (S8.out.trans (S10.out.trans (S12.out.trans (S14.out.trans S15.out))))).cell (p := ⟨T, 1, none⟩) (fun x => x) (blk_cell HXT.out.2.2 1)
    have t2 : w15.cell? ⟨T, 2, none⟩ = some (.int .i64 0) := (S7.out.trans (S8.out.trans (S10.out.trans (S12.out.trans (S14.out.trans S15.out))))).cell (p := ⟨T, 2, none⟩) (fun x => x) (blk_cell HXT.out.2.2 2)
    have t3 : w15.cell? ⟨T, 3, none⟩ = some (.int .i64 0) := (S7.out.trans (S8.out.trans (S10.out.trans (S12.out.trans (S14.out.trans S15.out))))).cell (p := ⟨T, 3, none⟩) (fun x => x) (blk_cell HXT.out.2.2 3)
    have t4 : w15.cell? ⟨T, 4, none⟩ = some (.slice none 0 0) := (S7.out.trans (S8.out.trans (S10.out.trans (S12.out.trans (S14.out.trans S15.out))))).cell (p := ⟨T, 4, none⟩) (fun x => x) (blk_cell HXT.out.2.2 4)
    have q0 : w15.cell? ⟨Q, 0, none⟩ = some (.int .u8 0) := (S15.out).cell (p := ⟨Q, 0, none⟩) (fun x => x) (blk_cell HXQ.out.2.2 0)
    have q1 : w15.cell? ⟨Q, 1, none⟩ = some (.bool false) := (S15.out).cell (p := ⟨Q, 1, none⟩) (fun x => x) (blk_cell HXQ.out.2.2 1)
    have q2 : w15.cell? ⟨Q, 2, none⟩ = some (.int .i64 0) := (S15.out).cell (p := ⟨Q, 2, none⟩) (fun x => x) (blk_cell HXQ.out.2.2 2)
    have q3 : w15.cell? ⟨Q, 3, none⟩ = some (.int .i64 0) := (S15.out).cell (p := ⟨Q, 3, none⟩) (fun x => x) (blk_cell HXQ.out.2.2 3)
    have q4 : w15.cell? ⟨Q, 4, none⟩ = some (.slice none 0 0) := (S15.out).cell (p := ⟨Q, 4, none⟩) (fun x => x) (blk_cell HXQ.out.2.2 4)
    go_wp2_with fail
    refine (SZ w15).mono ?_
    rintro e w16 ⟨rfl, k16⟩
    have J16 := Lib.hid (J15.out.trans k16)
    have S16 := Lib.hid k16
    clear k16
    clear t0 t1 t2 t3 t4
    clear q0 q1 q2 q3 q4
    have a0 : w16.cell? ⟨A, 0, none⟩ = some (.int .i64 0) := (S12.out.trans (S14.out.trans (S15.out.trans S16.out))).cell (p := ⟨A, 0, none⟩) (fun x => x) (blk_cell HXA.out.2.2 0)
    have a1 : w16.cell? ⟨A, 1, none⟩ = some (.slice none 0 0) := (S12.out.trans (S14.out.trans (S15.out.trans S16.out))).cell (p := ⟨A, 1, none⟩) (fun x => x) (blk_cell HXA.out.2.2 1)
    go_wp2_with fail
    refine (SM w16).mono ?_
    rintro e w17 ⟨rfl, k17⟩
    have J17 := Lib.hid (J16.out.trans k17)
    have S17 := Lib.hid k17
    clear k17
    clear a0 a1
    have o0 := J17.out.cell (p := ⟨O, 0, none⟩) (fun x => x) HC.out.1.1
    have o1 := J17.out.cell (p := ⟨O, 1, none⟩) (fun x => x) HC.out.1.2
    have p0 := J17.out.cell (p := ⟨w0.heap.size, 0, none⟩) (fun x => x) HC.out.2.1
    have p1 := J17.out.cell (p := ⟨w0.heap.size, 1, none⟩) (fun x => x) HC.out.2.2
    go_wp2_with fail
    refine (DK.out w17 (LA2.out.kbF J17.out) J17.out).mono ?_
    rintro e w18 ⟨rfl, k18⟩
    have J18 := Lib.hid (J17.out.trans k18)
    have S18 := Lib.hid k18
    clear k18
    clear o0 o1 p0 p1
    go_wp2_with fail
    refine (AW.out _ (K3.out.trans J18.out)).mono ?_
    rintro e w19 ⟨rfl, k19⟩
    have J19 := Lib.hid (HB.out.1.trans (K3.out.trans (J18.out.trans k19)))
    clear k19
    go_wp2_with fail
    go_ret
    exact ⟨rfl, J19.out⟩
  | some x =>
    obtain ⟨t, hs⟩ := x
    have hgood := way_good hwk
    have HG := Lib.hid hgood
    have hlen : hs.length = Np := by
      have := HLEN.out rfl
      rw [HN.out.1]; exact this
    obtain ⟨n, hn⟩ : ∃ n, n = heldN hs := ⟨_, rfl⟩
    have hnN : n ≤ Np := by rw [hn, ← hlen]; exact heldN_le _
    have hcl : (p.path.take n).length = n := by rw [List.length_take, ← HN.out.1]; omega
    have HNN := Lib.hid (And.intro hn (And.intro hlen hcl))
    have HVC := Lib.hid (show ∀ a c, plV (cutP p n) a c = .agg #[.int .i64 lp, .slice a n c] from fun a c => by unfold plV; rw [show (cutP p n).path.length = n from hcl, HN.out.2.1]; rfl)
    have TyE : ∀ {V : World} {e : Ending} {w' : World}, TypEnd (some (t, hs)) V e w' → ∃ ga gc, e = .returned (.tuple #[.agg #[.int .u8 t.k, .bool t.m, .int .i64 t.r, .int .i64 t.s, .slice ga t.of.length gc], .int .i64 0]) ∧ OwnT 48 w' V.heap.size t ga gc ∧ KB F0 V w' := fun h => by
      obtain ⟨hk, ga, gc, h1, h2⟩ := h
      exact ⟨ga, gc, h1, h2, hk⟩
    have GoE : ∀ {V : World} {e : Ending} {w' : World}, GoEnd (some (t, hs)) V e w' → ∃ ga gc, e = .returned (.tuple #[.slice ga Np gc, .int .i64 0]) ∧ w'.ownsRow V.heap.size 3 1 (.slice ga Np gc) Np (intsV hs) ∧ KB F0 V w' := fun h => by
      obtain ⟨hk, ga, gc, h1, h2⟩ := h
      simp only [hlen] at h1 h2
      exact ⟨ga, gc, h1, h2, hk⟩
    have HeE : ∀ {V : World} {e : Ending} {w' : World}, HeldV V p (some (t, hs)) e w' → ∃ va vc, e = .returned (.tuple #[.agg #[.int .i64 lp, .slice va n vc], .int .i64 0]) ∧ OwnI w' V.heap.size (.slice va n vc) (p.path.take n) ∧ KB F0 V w' := fun h => by
      obtain ⟨hk, v, h1, h2⟩ := h
      rw [show heldN (t, hs).2 = n from hn.symm] at h2
      obtain ⟨a, c, e9, -⟩ := h2.at
      rw [hcl] at e9
      subst e9
      exact ⟨a, c, by rw [h1, HN.out.2.1], h2, hk⟩
    have WkE : ∀ {V : World} {e : Ending} {w' : World}, WkEndB S w3 V (some (t, hs)) e w' → ∃ qa qc ha hc, e = .returned (.tuple #[.agg #[.int .u8 t.k, .bool t.m, .int .i64 t.r, .int .i64 t.s, .slice qa t.of.length qc], .slice ha Np hc, .bool true]) ∧ OnWay S w3 t qa qc ∧ w'.ownsRow V.heap.size 3 1 (.slice ha Np hc) Np (intsV hs) ∧ KB F0 V w' := fun h => by
      obtain ⟨hk, qa, qc, gv, h1, h2, h3⟩ := h
      simp only [hlen] at h3
      obtain ⟨ha, hc, rfl, -⟩ := own_shape h3
      exact ⟨qa, qc, ha, hc, h1, h2, h3, hk⟩
    have RhE : ∀ {V : World} {e : Ending} {w' : World}, RHeld p (heldN hs) V e w' → ∃ va vc, e = .returned (.agg #[.int .i64 lp, .slice va n vc]) ∧ OwnI w' V.heap.size (.slice va n vc) (p.path.take n) ∧ KB F0 V w' := fun h => by
      obtain ⟨hk, v, h1, h2⟩ := h
      rw [← hn] at h2
      obtain ⟨a, c, e9, -⟩ := h2.at
      rw [hcl] at e9
      subst e9
      exact ⟨a, c, by rw [h1, HN.out.2.1], h2, hk⟩
    have PLC : ∀ {V : World} {B : Nat} {a : Option Addr} {c : Nat}, OwnI V B (.slice a n c) (p.path.take n) → PlAt V (cutP p n) a c := fun {V B a c} h => by
      obtain ⟨a', c', e9, hle9, -, hi9⟩ := h.at
      simp only [Value.slice.injEq] at e9
      obtain ⟨rfl, -, rfl⟩ := e9
      exact ⟨hi9, by show (p.path.take n).length ≤ _; exact hle9, by show (p.path.take n).length ≤ 100000; omega⟩
    have SMC : ∀ (V : World) (a b : Option Addr) (c d : Nat), PlAt V (cutP p n) a c → PlAt V (cutP p n) b d → Calls Tryz.prog 21 #[.agg #[.int .i64 lp, .slice a n c], .agg #[.int .i64 lp, .slice b n d]] V fun e w' => e = .returned (.bool true) ∧ KB F0 V w' := fun V a b c d h1 h2 => by
      have h := rsame_any (cutP p n) (cutP p n) a b c d V h1 h2
      rw [HVC.out, HVC.out, show decide (ordP (cutP p n) (cutP p n) = 0) = true from decide_eq_true (ordP_zero.2 ⟨rfl, rfl⟩)] at h
      exact h
    clear hgood hlen hn hcl hwk
    have o0 : (w2.alloc (.cells #[.int .i64 lp, .slice (some ⟨g, 0, none⟩) Np d] 26)).cell? ⟨O, 0, none⟩ = some (.int .i64 lp) := by rw [← HW3.out.1]; exact J3.out.cell (p := ⟨O, 0, none⟩) (fun x => x) HC.out.1.1
    have o1 : (w2.alloc (.cells #[.int .i64 lp, .slice (some ⟨g, 0, none⟩) Np d] 26)).cell? ⟨O, 1, none⟩ = some (.slice (some ⟨g, 0, none⟩) Np d) := by rw [← HW3.out.1]; exact J3.out.cell (p := ⟨O, 1, none⟩) (fun x => x) HC.out.1.2
    go_wp2_with fail
    rw [← HW3.out.1, ← HW3.out.2]
    refine (DT.out _ J3.out).mono ?_
    intro e w4 hE
    obtain ⟨ta, tc, rfl, ho, k4⟩ := TyE hE
    have OT := Lib.hid ho
    clear hE o0 o1 ho
    have ka := (KB.refl F0 w4).alloc (.cells #[.int .u8 t.k, .bool t.m, .int .i64 t.r, .int .i64 t.s, .slice ta t.of.length tc] 36)
    have hbx := alloc_new w4 (.cells #[.int .u8 t.k, .bool t.m, .int .i64 t.r, .int .i64 t.s, .slice ta t.of.length tc] 36)
    obtain ⟨w5, hw⟩ : ∃ q, q = w4.alloc (.cells #[.int .u8 t.k, .bool t.m, .int .i64 t.r, .int .i64 t.s, .slice ta t.of.length tc] 36) := ⟨_, rfl⟩
    rw [← hw] at ka hbx
    obtain ⟨T, hX⟩ : ∃ X, X = w4.heap.size := ⟨_, rfl⟩
    rw [← hX] at hbx
    have J5 := Lib.hid (J3.out.trans (k4.trans ka))
    have S5 := Lib.hid (k4.trans ka)
    have R5 := Lib.hid ka
    have P4 := Lib.hid k4
    have HXT := Lib.hid (And.intro hw (And.intro hX hbx))
    clear hw hX hbx ka k4
    have o0 : (w4.alloc (.cells #[.int .u8 t.k, .bool t.m, .int .i64 t.r, .int .i64 t.s, .slice ta t.of.length tc] 36)).cell? ⟨O, 0, none⟩ = some (.int .i64 lp) := by rw [← HXT.out.1]; exact J5.out.cell (p := ⟨O, 0, none⟩) (fun x => x) HC.out.1.1
    have o1 : (w4.alloc (.cells #[.int .u8 t.k, .bool t.m, .int .i64 t.r, .int .i64 t.s, .slice ta t.of.length tc] 36)).cell? ⟨O, 1, none⟩ = some (.slice (some ⟨g, 0, none⟩) Np d) := by rw [← HXT.out.1]; exact J5.out.cell (p := ⟨O, 1, none⟩) (fun x => x) HC.out.1.2
    go_wp2_with fail
    rw [← HXT.out.1, ← HXT.out.2.1]
    refine (DT.out _ J5.out).mono ?_
    intro e w6 hE
    obtain ⟨ua, uc, rfl, ho, k6⟩ := TyE hE
    have OU := Lib.hid ho
    clear hE o0 o1 ho
    have ka := (KB.refl F0 w6).alloc (.cells #[.int .u8 t.k, .bool t.m, .int .i64 t.r, .int .i64 t.s, .slice ua t.of.length uc] 36)
    have hbx := alloc_new w6 (.cells #[.int .u8 t.k, .bool t.m, .int .i64 t.r, .int .i64 t.s, .slice ua t.of.length uc] 36)
    obtain ⟨w7, hw⟩ : ∃ q, q = w6.alloc (.cells #[.int .u8 t.k, .bool t.m, .int .i64 t.r, .int .i64 t.s, .slice ua t.of.length uc] 36) := ⟨_, rfl⟩
    rw [← hw] at ka hbx
    obtain ⟨U, hX⟩ : ∃ X, X = w6.heap.size := ⟨_, rfl⟩
    rw [← hX] at hbx
    have J7 := Lib.hid (J5.out.trans (k6.trans ka))
    have S7 := Lib.hid (k6.trans ka)
    have R7 := Lib.hid ka
    have P6 := Lib.hid k6
    have HXU := Lib.hid (And.intro hw (And.intro hX hbx))
    clear hw hX hbx ka k6
    have o0 : (w6.alloc (.cells #[.int .u8 t.k, .bool t.m, .int .i64 t.r, .int .i64 t.s, .slice ua t.of.length uc] 36)).cell? ⟨O, 0, none⟩ = some (.int .i64 lp) := by rw [← HXU.out.1]; exact J7.out.cell (p := ⟨O, 0, none⟩) (fun x => x) HC.out.1.1
    have o1 : (w6.alloc (.cells #[.int .u8 t.k, .bool t.m, .int .i64 t.r, .int .i64 t.s, .slice ua t.of.length uc] 36)).cell? ⟨O, 1, none⟩ = some (.slice (some ⟨g, 0, none⟩) Np d) := by rw [← HXU.out.1]; exact J7.out.cell (p := ⟨O, 1, none⟩) (fun x => x) HC.out.1.2
    go_wp2_with fail
    rw [← HXU.out.1, ← HXU.out.2.1]
    refine (DG.out _ J7.out).mono ?_
    intro e w8 hE
    obtain ⟨la2, lc2, rfl, ho, k8⟩ := GoE hE
    have OL := Lib.hid ho
    clear hE o0 o1 ho
    have J8 := Lib.hid (J7.out.trans k8)
    have S8 := Lib.hid k8
    clear k8
    have o0 := J8.out.cell (p := ⟨O, 0, none⟩) (fun x => x) HC.out.1.1
    have o1 := J8.out.cell (p := ⟨O, 1, none⟩) (fun x => x) HC.out.1.2
    go_wp2_with fail
    refine (DH.out _ J8.out).mono ?_
    intro e w9 hE
    obtain ⟨va, vc, rfl, ho, k9⟩ := HeE hE
    have OA := Lib.hid ho
    clear hE o0 o1 ho
    have ka := (KB.refl F0 w9).alloc (.cells #[.int .i64 lp, .slice va n vc] 26)
    have hbx := alloc_new w9 (.cells #[.int .i64 lp, .slice va n vc] 26)
    obtain ⟨w10, hw⟩ : ∃ q, q = w9.alloc (.cells #[.int .i64 lp, .slice va n vc] 26) := ⟨_, rfl⟩
    rw [← hw] at ka hbx
    obtain ⟨A, hX⟩ : ∃ X, X = w9.heap.size := ⟨_, rfl⟩
    rw [← hX] at hbx
    have J10 := Lib.hid (J8.out.trans (k9.trans ka))
    have S10 := Lib.hid (k9.trans ka)
    have R10 := Lib.hid ka
    have P9 := Lib.hid k9
    have HXA := Lib.hid (And.intro hw (And.intro hX hbx))
    clear hw hX hbx ka k9
    have o0 : (w9.alloc (.cells #[.int .i64 lp, .slice va n vc] 26)).cell? ⟨O, 0, none⟩ = some (.int .i64 lp) := by rw [← HXA.out.1]; exact J10.out.cell (p := ⟨O, 0, none⟩) (fun x => x) HC.out.1.1
    have o1 : (w9.alloc (.cells #[.int .i64 lp, .slice va n vc] 26)).cell? ⟨O, 1, none⟩ = some (.slice (some ⟨g, 0, none⟩) Np d) := by rw [← HXA.out.1]; exact J10.out.cell (p := ⟨O, 1, none⟩) (fun x => x) HC.out.1.2
    go_wp2_with fail
    rw [← HXA.out.1, ← HXA.out.2.1]
    refine (DH.out _ J10.out).mono ?_
    intro e w11 hE
    obtain ⟨ba, bc, rfl, ho, k11⟩ := HeE hE
    have OB := Lib.hid ho
    clear hE o0 o1 ho
    have ka := (KB.refl F0 w11).alloc (.cells #[.int .i64 lp, .slice ba n bc] 26)
    have hbx := alloc_new w11 (.cells #[.int .i64 lp, .slice ba n bc] 26)
    obtain ⟨w12, hw⟩ : ∃ q, q = w11.alloc (.cells #[.int .i64 lp, .slice ba n bc] 26) := ⟨_, rfl⟩
    rw [← hw] at ka hbx
    obtain ⟨B, hX⟩ : ∃ X, X = w11.heap.size := ⟨_, rfl⟩
    rw [← hX] at hbx
    have J12 := Lib.hid (J10.out.trans (k11.trans ka))
    have S12 := Lib.hid (k11.trans ka)
    have R12 := Lib.hid ka
    have P11 := Lib.hid k11
    have HXB := Lib.hid (And.intro hw (And.intro hX hbx))
    clear hw hX hbx ka k11
    have p0 : (w11.alloc (.cells #[.int .i64 lp, .slice ba n bc] 26)).cell? ⟨w0.heap.size, 0, none⟩ = some (.int .i64 lp) := by rw [← HXB.out.1]; exact J12.out.cell (p := ⟨w0.heap.size, 0, none⟩) (fun x => x) HC.out.2.1
    have p1 : (w11.alloc (.cells #[.int .i64 lp, .slice ba n bc] 26)).cell? ⟨w0.heap.size, 1, none⟩ = some (.slice ap Np cp) := by rw [← HXB.out.1]; exact J12.out.cell (p := ⟨w0.heap.size, 1, none⟩) (fun x => x) HC.out.2.2
    go_wp2_with fail
    rw [← HXB.out.1, ← HXB.out.2.1]
    refine (DW.out _ J12.out).mono ?_
    intro e w13 hE
    obtain ⟨qa, qc, ha, hc, rfl, hon, ho, k13⟩ := WkE hE
    have OQ := Lib.hid (And.intro (OnWay.look HG.out hon) ho)
    clear hE p0 p1 ho hon
    have ka := (KB.refl F0 w13).alloc (.cells #[.int .u8 t.k, .bool t.m, .int .i64 t.r, .int .i64 t.s, .slice qa t.of.length qc] 36)
    have hbx := alloc_new w13 (.cells #[.int .u8 t.k, .bool t.m, .int .i64 t.r, .int .i64 t.s, .slice qa t.of.length qc] 36)
    obtain ⟨w14, hw⟩ : ∃ q, q = w13.alloc (.cells #[.int .u8 t.k, .bool t.m, .int .i64 t.r, .int .i64 t.s, .slice qa t.of.length qc] 36) := ⟨_, rfl⟩
    rw [← hw] at ka hbx
    obtain ⟨Q, hX⟩ : ∃ X, X = w13.heap.size := ⟨_, rfl⟩
    rw [← hX] at hbx
    have J14 := Lib.hid (J12.out.trans (k13.trans ka))
    have S14 := Lib.hid (k13.trans ka)
    have R14 := Lib.hid ka
    have P13 := Lib.hid k13
    have HXQ := Lib.hid (And.intro hw (And.intro hX hbx))
    clear hw hX hbx ka k13
    have o0 : (w13.alloc (.cells #[.int .u8 t.k, .bool t.m, .int .i64 t.r, .int .i64 t.s, .slice qa t.of.length qc] 36)).cell? ⟨O, 0, none⟩ = some (.int .i64 lp) := by rw [← HXQ.out.1]; exact J14.out.cell (p := ⟨O, 0, none⟩) (fun x => x) HC.out.1.1
    have o1 : (w13.alloc (.cells #[.int .u8 t.k, .bool t.m, .int .i64 t.r, .int .i64 t.s, .slice qa t.of.length qc] 36)).cell? ⟨O, 1, none⟩ = some (.slice (some ⟨g, 0, none⟩) Np d) := by rw [← HXQ.out.1]; exact J14.out.cell (p := ⟨O, 1, none⟩) (fun x => x) HC.out.1.2
    go_wp2_with fail
    rw [← HXQ.out.1, ← HXQ.out.2.1]
    refine (DM.out _ J14.out).mono ?_
    rintro e w15 ⟨rfl, k15⟩
    have J15 := Lib.hid (J14.out.trans k15)
    have S15 := Lib.hid k15
    clear k15 o0 o1
    simp only [Option.isSome_some]
    have hdeep : deepT 48 t = true := deep_look OQ.out.1.1
    have ST : ∀ (V : World) (a b : Option Addr) (c d : Nat), TyAt 49 V t a c → TyAt 49 V t b d → Calls Tryz.prog 33 #[.agg #[.int .u8 t.k, .bool t.m, .int .i64 t.r, .int .i64 t.s, .slice a t.of.length c], .agg #[.int .u8 t.k, .bool t.m, .int .i64 t.r, .int .i64 t.s, .slice b t.of.length d]] V fun e w' => e = .returned (.bool true) ∧ KB F0 V w' := fun V a b c d h1 h2 => sameTy_any 48 t a b c d V hdeep h1 h2
    clear TyE GoE HeE WkE
    have t0 : w15.cell? ⟨T, 0, none⟩ = some (.int .u8 t.k) := (S7.out.trans (S8.out.trans (S10.out.trans (S12.out.trans (S14.out.trans S15.out))))).cell (p := ⟨T, 0, none⟩) (fun x => x) (blk_cell HXT.out.2.2 0)
    have t1 : w15.cell? ⟨T, 1, none⟩ = some (.bool t.m) := (S7.out.trans (S8.out.trans (S10.out.trans (S12.out.trans (S14.out.trans S15.out))))).cell (p := ⟨T, 1, none⟩) (fun x => x) (blk_cell HXT.out.2.2 1)
    have t2 : w15.cell? ⟨T, 2, none⟩ = some (.int .i64 t.r) := (S7.out.trans (S8.out.trans (S10.out.trans (S12.out.trans (S14.out.trans S15.out))))).cell (p := ⟨T, 2, none⟩) (fun x => x) (blk_cell HXT.out.2.2 2)
    have t3 : w15.cell? ⟨T, 3, none⟩ = some (.int .i64 t.s) := (S7.out.trans (S8.out.trans (S10.out.trans (S12.out.trans (S14.out.trans S15.out))))).cell (p := ⟨T, 3, none⟩) (fun x => x) (blk_cell HXT.out.2.2 3)
    have t4 : w15.cell? ⟨T, 4, none⟩ = some (.slice ta t.of.length tc) := (S7.out.trans (S8.out.trans (S10.out.trans (S12.out.trans (S14.out.trans S15.out))))).cell (p := ⟨T, 4, none⟩) (fun x => x) (blk_cell HXT.out.2.2 4)
    have q0 : w15.cell? ⟨Q, 0, none⟩ = some (.int .u8 t.k) := (S15.out).cell (p := ⟨Q, 0, none⟩) (fun x => x) (blk_cell HXQ.out.2.2 0)
    have q1 : w15.cell? ⟨Q, 1, none⟩ = some (.bool t.m) := (S15.out).cell (p := ⟨Q, 1, none⟩) (fun x => x) (blk_cell HXQ.out.2.2 1)
    have q2 : w15.cell? ⟨Q, 2, none⟩ = some (.int .i64 t.r) := (S15.out).cell (p := ⟨Q, 2, none⟩) (fun x => x) (blk_cell HXQ.out.2.2 2)
    have q3 : w15.cell? ⟨Q, 3, none⟩ = some (.int .i64 t.s) := (S15.out).cell (p := ⟨Q, 3, none⟩) (fun x => x) (blk_cell HXQ.out.2.2 3)
    have q4 : w15.cell? ⟨Q, 4, none⟩ = some (.slice qa t.of.length qc) := (S15.out).cell (p := ⟨Q, 4, none⟩) (fun x => x) (blk_cell HXQ.out.2.2 4)
    go_wp2_with fail
    refine (ST w15 ta qa tc qc (OT.out.at.kbF (R5.out.trans (S7.out.trans (S8.out.trans (S10.out.trans (S12.out.trans (S14.out.trans S15.out))))))) ((OQ.out.1.2 49).kbF J15.out)).mono ?_
    rintro e w16 ⟨rfl, k16⟩
    have J16 := Lib.hid (J15.out.trans k16)
    have S16 := Lib.hid k16
    clear k16
    clear t0 t1 t2 t3 t4
    clear q0 q1 q2 q3 q4
    have HL := Lib.hid (fun (i : Nat) (hi : i < Np) => And.intro (ints_at (own_kb OL.out (S10.out.trans (S12.out.trans (S14.out.trans (S15.out.trans S16.out)))) (fun _ _ x => x)) HNN.out.2.1.symm hi) (ints_at (own_kb OQ.out.2 (R14.out.trans (S15.out.trans S16.out)) (fun _ _ x => x)) HNN.out.2.1.symm hi))
    go_wp2_with fail
    go_loopg [21] Np (fun g iv wr => ∃ i : Nat, i ≤ Np ∧ g = Np - i ∧ iv = .int .i64 (i : Nat) ∧ Hid (KB F0 w16 wr))
    case atStart => exact ⟨0, by omega, by omega, rfl, Lib.hid (KB.refl _ _)⟩
    case round =>
      obtain ⟨i, hi, rfl, rfl, S17⟩ := hrel
      obtain ⟨w17, rfl⟩ : ∃ q, q = wr := ⟨_, rfl⟩
      by_cases hlt : i < Np
      · have hkI : (i : Int) < (Np : Int) := by omega
        have dk : decide ((i : Int) < (Np : Int)) = true := decide_eq_true hkI
        obtain ⟨⟨g1, e1, hc1'⟩, ⟨g2, e2, hc2'⟩⟩ := HL.out i hlt
        have hc1 := S17.out.cell (p := ⟨g1, i, none⟩) (fun x => x) hc1'
        have hc2 := S17.out.cell (p := ⟨g2, i, none⟩) (fun x => x) hc2'
        clear hc1' hc2'
        generalize hs.getD i 0 = h at hc1 hc2
        have hne : (h != h) = false := by simp
        subst e1 e2
        go_upto_region 17 with fail
        refine wp_region_rv 9 GK (kindW []) (by kernel_rfl) (by kernel_rfl) (kb_trans _) (kb_refl _) (kb_start _ _) (kindW_mono _ (by intro p hp; cases hp)) ?_
        simp only [List.take_succ_cons, List.take_zero, List.drop_succ_cons, List.drop_zero]
        iterate 9 (refine rv_det (by kernel_rfl) rfl (by intro w hG hH; have hc0 := KB.cell hG (fun x => x) (hc1); have hc1 := KB.cell hG (fun x => x) (hc2); go_simp; first | done | with_reducible rfl) ?_; simp only [Act.put, List.setIfInBounds_toArray, List.set_cons_zero, List.set_cons_succ])
        refine rv_nil (fun w hG hH => ?_)
        have SN := Lib.hid (S17.out.trans hG)
        clear hG hH hc1 hc2
        go_wp2_with fail
        go_roundg (Np - (i + 1))
        case measure => omega
        case rel => exact ⟨i + 1, by omega, rfl, by go_num, SN⟩
      · have hiN : Np = i := by omega
        subst hiN
        have dk : decide ((Np : Int) < (Np : Int)) = false := decide_eq_false (by omega)
        have J17 := Lib.hid (J16.out.trans S17.out)
        have p0 := J17.out.cell (p := ⟨w0.heap.size, 0, none⟩) (fun x => x) HC.out.2.1
        have p1 := J17.out.cell (p := ⟨w0.heap.size, 1, none⟩) (fun x => x) HC.out.2.2
        have a0 : w17.cell? ⟨A, 0, none⟩ = some (.int .i64 lp) := (S12.out.trans (S14.out.trans (S15.out.trans (S16.out.trans S17.out)))).cell (p := ⟨A, 0, none⟩) (fun x => x) (blk_cell HXA.out.2.2 0)
        have a1 : w17.cell? ⟨A, 1, none⟩ = some (.slice va n vc) := (S12.out.trans (S14.out.trans (S15.out.trans (S16.out.trans S17.out)))).cell (p := ⟨A, 1, none⟩) (fun x => x) (blk_cell HXA.out.2.2 1)
        go_wp2_with fail
        refine wp_region_rv 19 GK (kindW [(15, (fun v => ∃ a c, v = .agg #[.int .i64 lp, .slice a n c]), HeldF lp n w17.heap.size (p.path.take n)), (16, (fun v => v = .bool true), (fun _ _ => True))]) (by kernel_rfl) (by kernel_rfl) (kb_trans _) (kb_refl _) (kb_start _ _) (kindW_mono _ (by intro p hp; simp only [List.mem_cons, List.not_mem_nil, or_false] at hp; rcases hp with rfl | rfl <;> first | exact lasts_true | exact lasts_held _ _ _ _)) ?_
        simp only [List.take_succ_cons, List.take_zero, List.drop_succ_cons, List.drop_zero]
        iterate 15 (refine rv_det (by kernel_rfl) rfl (by intro w hG hH; have hc0 := KB.cell hG (fun x => x) (a0); have hc1 := KB.cell hG (fun x => x) (a1); have hc2 := KB.cell hG (fun x => x) (p0); have hc3 := KB.cell hG (fun x => x) (p1); go_simp; first | done | with_reducible rfl) ?_; simp only [Act.put, List.setIfInBounds_toArray, List.set_cons_zero, List.set_cons_succ])
        refine rv_rel (by kernel_rfl) rfl ⟨_, none, 0, rfl⟩ (by
          intro w hG hH
          refine opVal_call (by go_simp; first | done | exact ⟨⟨rfl, rfl⟩, rfl⟩) ?_
          refine (DR.out w (J17.out.trans hG) rfl).mono ?_
          intro e w' hE
          obtain ⟨a, c, rfl, ho, hk⟩ := RhE hE
          refine ⟨_, rfl, ⟨a, c, rfl⟩, hk, fun a2 c2 e2 => ?_⟩
          simp only [Value.agg.injEq, Array.mk.injEq, List.cons.injEq, Value.slice.injEq, and_true, true_and] at e2
          obtain ⟨rfl, rfl⟩ := e2
          exact own_base ho hG.size) ?_
        rintro v ⟨ra, rc, rfl⟩
        simp only [Act.put, List.setIfInBounds_toArray, List.set_cons_zero, List.set_cons_succ]
        refine rv_rel (by kernel_rfl) rfl ⟨_, rfl⟩ (by
          intro w hG hH
          refine opVal_call (by go_simp; first | done | exact ⟨⟨rfl, rfl⟩, rfl⟩) ?_
          refine (SMC w va ra vc rc (PLC (OA.out.kbF ((R10.out.trans (S12.out.trans (S14.out.trans (S15.out.trans (S16.out.trans S17.out))))).trans hG))) (PLC (hH (15, _) List.mem_cons_self (by kernel_rfl) ra rc rfl))).mono ?_
          rintro e w' ⟨rfl, hq⟩
          exact ⟨_, rfl, rfl, by first | (obtain ⟨nq, rfl⟩ := hq; exact (KB.refl _ _).drewN _) | (subst hq; exact KB.refl _ _) | exact hq, trivial⟩) ?_
        rintro v rfl
        simp only [Act.put, List.setIfInBounds_toArray, List.set_cons_zero, List.set_cons_succ]
        iterate 2 (refine rv_det (by kernel_rfl) rfl (by intro w hG hH; go_simp; first | done | with_reducible rfl) ?_; simp only [Act.put, List.setIfInBounds_toArray, List.set_cons_zero, List.set_cons_succ])
        refine rv_nil (fun w hG hH => ?_)
        obtain ⟨w18, rfl⟩ : ∃ q, q = w := ⟨_, rfl⟩
        have J18 := Lib.hid (J17.out.trans hG)
        have S18 := Lib.hid hG
        clear hG hH a0 a1 p0 p1
        have hOA : w18.ownsRow w8.heap.size 56 1 (.slice va n vc) n (ints (p.path.take n)) := by
          have h := OA.out.kbF (R10.out.trans (S12.out.trans (S14.out.trans (S15.out.trans (S16.out.trans (S17.out.trans S18.out))))))
          unfold OwnI at h
          rw [HNN.out.2.2] at h
          exact h
        have OV := over_any lp (.slice va n vc) n w8.heap.size (ints (p.path.take n)) (by omega) w18 hOA (S10.out.trans (S12.out.trans (S14.out.trans (S15.out.trans (S16.out.trans (S17.out.trans S18.out)))))).size
        clear hOA
        have a0 : w18.cell? ⟨A, 0, none⟩ = some (.int .i64 lp) := (S12.out.trans (S14.out.trans (S15.out.trans (S16.out.trans (S17.out.trans S18.out))))).cell (p := ⟨A, 0, none⟩) (fun x => x) (blk_cell HXA.out.2.2 0)
        have a1 : w18.cell? ⟨A, 1, none⟩ = some (.slice va n vc) := (S12.out.trans (S14.out.trans (S15.out.trans (S16.out.trans (S17.out.trans S18.out))))).cell (p := ⟨A, 1, none⟩) (fun x => x) (blk_cell HXA.out.2.2 1)
        go_wp2_with fail
        refine OV.mono ?_
        rintro e w19 ⟨rfl, k19⟩
        clear a0 a1 OV
        have hvB : ∀ k, (Value.slice va n vc).ownBlock = some k → w8.heap.size ≤ k ∧ k < w9.heap.size := fun k e => by
          obtain ⟨cur, h1, h2⟩ := own_block OA.out e
          exact ⟨h2, heap_lt h1⟩
        have htB : ∀ k, ta = some ⟨k, 0, none⟩ → w3.heap.size ≤ k ∧ k < w4.heap.size := fun k e => ownT_top OT.out e
        have hz : w3.heap.size ≤ w4.heap.size ∧ w4.heap.size ≤ w5.heap.size ∧ w5.heap.size ≤ w6.heap.size ∧ w6.heap.size ≤ w7.heap.size ∧ w7.heap.size ≤ w8.heap.size ∧ w8.heap.size ≤ w9.heap.size ∧ w9.heap.size ≤ w10.heap.size ∧ w10.heap.size ≤ w11.heap.size ∧ w11.heap.size ≤ w12.heap.size ∧ w12.heap.size ≤ w13.heap.size ∧ w13.heap.size ≤ w14.heap.size := ⟨P4.out.size, R5.out.size, P6.out.size, R7.out.size, S8.out.size, P9.out.size, R10.out.size, P11.out.size, R12.out.size, P13.out.size, R14.out.size⟩
        have hXs : T = w4.heap.size ∧ U = w6.heap.size ∧ A = w9.heap.size ∧ B = w11.heap.size ∧ Q = w13.heap.size := ⟨HXT.out.2.1, HXU.out.2.1, HXA.out.2.1, HXB.out.2.1, HXQ.out.2.1⟩
        have hXt : T < w5.heap.size ∧ U < w7.heap.size := ⟨heap_lt HXT.out.2.2, heap_lt HXU.out.2.2⟩
        have HBD := Lib.hid (And.intro hvB (And.intro htB (And.intro hz (And.intro hXs hXt))))
        have K19 := Lib.hid k19
        have T19 : Hid (w19.heap[T]? = some (tyObj t ta tc)) := Lib.hid (k19.heap (fun e => by have := hvB T e; omega) ((S7.out.trans (S8.out.trans (S10.out.trans (S12.out.trans (S14.out.trans (S15.out.trans (S16.out.trans (S17.out.trans S18.out)))))))).heap (fun x => x) HXT.out.2.2))
        have G19 : Hid (∀ gT a' c', ta = some ⟨gT, 0, none⟩ → w4.heap[gT]? = some (tyObj (in0 t) a' c') → w19.heap[gT]? = some (tyObj (in0 t) a' c')) := Lib.hid (fun gT a' c' e h => k19.heap (fun e2 => by have := hvB gT e2; have := htB gT e; omega) ((R5.out.trans (S7.out.trans (S8.out.trans (S10.out.trans (S12.out.trans (S14.out.trans (S15.out.trans (S16.out.trans (S17.out.trans S18.out))))))))).heap (fun x => x) h))
        have hle := deep_le hdeep
        clear hvB htB hz hXs hXt k19
        go_wp2_with fail
        go_loopg [22] t.of.length (fun g iv wr => ∃ i : Nat, i ≤ t.of.length ∧ g = t.of.length - i ∧ iv = .int .i64 (i : Nat) ∧ Hid (KB (fun k => ta = some ⟨k, 0, none⟩) w19 wr ∧ (i = 0 → wr = w19)))
        case atStart => exact ⟨0, by omega, by omega, rfl, Lib.hid ⟨KB.refl _ _, fun _ => rfl⟩⟩
        case round =>
          obtain ⟨i, hi, rfl, rfl, HI⟩ := hrel
          obtain ⟨w20, rfl⟩ : ∃ q, q = wr := ⟨_, rfl⟩
          have T20 := HI.out.1.heap (fun e => by have := HBD.out.2.1 T e; have := HBD.out.2.2.2.1; omega) T19.out
          have t4 : w20.cell? ⟨T, 4, none⟩ = some (.slice ta t.of.length tc) := blk_cell T20 4
          have HT20 := Lib.hid T20
          clear T20
          by_cases hlt : i < t.of.length
          · have h1 : t.of.length = 1 := by omega
            have h0 : i = 0 := by omega
            subst h0
            obtain ⟨w19', hw19⟩ : ∃ q, q = w20 := ⟨_, rfl⟩
            have e20 := HI.out.2 rfl
            obtain ⟨gT, a', c', hta, htc, hblk⟩ : ∃ gT a' c', ta = some ⟨gT, 0, none⟩ ∧ tc = 1 ∧ w4.heap[gT]? = some (tyObj (in0 t) a' c') := by
              rcases OT.out with h | ⟨h1, g, a', c', h2, h3, h4, h5, h6⟩
              · have := h.1; omega
              · exact ⟨g, a', c', h2, h3, h5⟩
            have hg := G19.out gT a' c' hta hblk
            rw [← e20] at hg
            have y0 := blk_cell hg 0
            have y1 := blk_cell hg 1
            have y2 := blk_cell hg 2
            have y3 := blk_cell hg 3
            have y4 := blk_cell hg 4
            simp only [List.getElem?_toArray, List.getElem?_cons_zero, List.getElem?_cons_succ] at y0 y1 y2 y3 y4
            have x0 := blk_frozen hg 0
            have x1 := blk_frozen hg 1
            have x2 := blk_frozen hg 2
            have x3 := blk_frozen hg 3
            have x4 := blk_frozen hg 4
            have KN := Lib.hid (show KB (fun k => ta = some ⟨k, 0, none⟩) w19 (set5 w20 gT (.int .u8 0) (.bool false) (.int .i64 0) (.int .i64 0) (.slice none 0 0)) from HI.out.1.trans ((set5_kb w20 gT _ _ _ _ _).mono (fun k _ e => by rw [hta, e])))
            unfold set5 at KN
            clear hg hblk e20 hw19
            subst hta
            clear h1 htc
            have hltI : (0 : Int) < (t.of.length : Int) := by omega
            have dk : decide (((0 : Nat) : Int) < (t.of.length : Int)) = true := decide_eq_true hltI
            have dk2 : decide ((0 : Int) < (t.of.length : Int)) = true := decide_eq_true hltI
            go_wp2_with fail
            go_roundg (t.of.length - 1)
            case measure => omega
            case rel => exact ⟨1, by omega, rfl, by go_num, Lib.hid ⟨KN.out, fun h => by omega⟩⟩
          · have hiN : t.of.length = i := by omega
            have dk : decide ((i : Int) < (t.of.length : Int)) = false := decide_eq_false (by omega)
            clear hiN
            have KS : ∀ {V : World}, KB F0 V w18 → KB (fun k => (Value.slice va n vc).ownBlock = some k ∨ ta = some ⟨k, 0, none⟩) V w20 := fun h => ((h.mono (fun _ _ x => x.elim)).trans (K19.out.mono (fun _ _ e => Or.inl e))).trans (HI.out.1.mono (fun _ _ e => Or.inr e))
            have NS : ∀ k, (k < w3.heap.size ∨ (w4.heap.size ≤ k ∧ k < w8.heap.size) ∨ w9.heap.size ≤ k) → ¬ ((Value.slice va n vc).ownBlock = some k ∨ ta = some ⟨k, 0, none⟩) := fun k hk e => by
              have hz := HBD.out.2.2.1
              rcases e with e | e
              · have := HBD.out.1 k e; omega
              · have := HBD.out.2.1 k e; omega
            have hz := HBD.out.2.2.1
            have hX := HBD.out.2.2.2
            have J20 := Lib.hid ((KB.refl F0 w3).oldS (KS J18.out) (fun k hk => NS k (Or.inl hk)))
            have BU : w20.heap[U]? = some (tyObj t ua uc) := (KS (S8.out.trans (S10.out.trans (S12.out.trans (S14.out.trans (S15.out.trans (S16.out.trans (S17.out.trans S18.out)))))))).heap (NS U (by omega)) HXU.out.2.2
            have BQ : w20.heap[Q]? = some (tyObj t qa qc) := (KS (S15.out.trans (S16.out.trans (S17.out.trans S18.out)))).heap (NS Q (by omega)) HXQ.out.2.2
            have BB : w20.heap[B]? = some (.cells #[.int .i64 lp, .slice ba n bc] 26 (0, 0)) := (KS (S14.out.trans (S15.out.trans (S16.out.trans (S17.out.trans S18.out))))).heap (NS B (by omega)) HXB.out.2.2
            have OB20 := Lib.hid (OB.out.kb (KS (R12.out.trans (S14.out.trans (S15.out.trans (S16.out.trans (S17.out.trans S18.out)))))) (fun k e => by
              obtain ⟨cur, h1, h2⟩ := own_block OB.out e
              exact NS k (by omega)))
            have OU20 := Lib.hid (OU.out.kb (KS (R7.out.trans (S8.out.trans (S10.out.trans (S12.out.trans (S14.out.trans (S15.out.trans (S16.out.trans (S17.out.trans S18.out))))))))) (fun k h1 h2 => NS k (by omega)))
            have b0 : w20.cell? ⟨B, 0, none⟩ = some (.int .i64 lp) := blk_cell BB 0
            have b1 : w20.cell? ⟨B, 1, none⟩ = some (.slice ba n bc) := blk_cell BB 1
            have u0 : w20.cell? ⟨U, 0, none⟩ = some (.int .u8 t.k) := blk_cell BU 0
            have u1 : w20.cell? ⟨U, 1, none⟩ = some (.bool t.m) := blk_cell BU 1
            have u2 : w20.cell? ⟨U, 2, none⟩ = some (.int .i64 t.r) := blk_cell BU 2
            have u3 : w20.cell? ⟨U, 3, none⟩ = some (.int .i64 t.s) := blk_cell BU 3
            have u4 : w20.cell? ⟨U, 4, none⟩ = some (.slice ua t.of.length uc) := blk_cell BU 4
            have q0 : w20.cell? ⟨Q, 0, none⟩ = some (.int .u8 t.k) := blk_cell BQ 0
            have q1 : w20.cell? ⟨Q, 1, none⟩ = some (.bool t.m) := blk_cell BQ 1
            have q2 : w20.cell? ⟨Q, 2, none⟩ = some (.int .i64 t.r) := blk_cell BQ 2
            have q3 : w20.cell? ⟨Q, 3, none⟩ = some (.int .i64 t.s) := blk_cell BQ 3
            have q4 : w20.cell? ⟨Q, 4, none⟩ = some (.slice qa t.of.length qc) := blk_cell BQ 4
            have o0 := J20.out.cell (p := ⟨O, 0, none⟩) (fun x => x) HC.out.1.1
            have o1 := J20.out.cell (p := ⟨O, 1, none⟩) (fun x => x) HC.out.1.2
            have p0 := J20.out.cell (p := ⟨w0.heap.size, 0, none⟩) (fun x => x) HC.out.2.1
            have p1 := J20.out.cell (p := ⟨w0.heap.size, 1, none⟩) (fun x => x) HC.out.2.2
            clear KS NS hz hX BU BQ BB hle
            go_wp2_with fail
            refine wp_region_rv 20 GK (kindW [(4, (fun v => ∃ a c, v = .agg #[.int .i64 lp, .slice a n c]), HeldF lp n w20.heap.size (p.path.take n)), (5, (fun v => v = .bool true), (fun _ _ => True)), (9, (fun v => v = .bool true), (fun _ _ => True)), (14, (fun v => v = .bool true), (fun _ _ => True)), (17, (fun v => v = .bool true), (fun _ _ => True))]) (by kernel_rfl) (by kernel_rfl) (kb_trans _) (kb_refl _) (kb_start _ _) (kindW_mono _ (by intro p hp; simp only [List.mem_cons, List.not_mem_nil, or_false] at hp; rcases hp with rfl | rfl | rfl | rfl | rfl <;> first | exact lasts_true | exact lasts_held _ _ _ _)) ?_
            simp only [List.take_succ_cons, List.take_zero, List.drop_succ_cons, List.drop_zero]
            iterate 4 (refine rv_det (by kernel_rfl) rfl (by intro w hG hH; have hc0 := KB.cell hG (fun x => x) (b0); have hc1 := KB.cell hG (fun x => x) (b1); have hc2 := KB.cell hG (fun x => x) (p0); have hc3 := KB.cell hG (fun x => x) (p1); go_simp; first | done | with_reducible rfl) ?_; simp only [Act.put, List.setIfInBounds_toArray, List.set_cons_zero, List.set_cons_succ])
            refine rv_rel (by kernel_rfl) rfl ⟨_, none, 0, rfl⟩ (by
              intro w hG hH
              refine opVal_call (by go_simp; first | done | exact ⟨⟨rfl, rfl⟩, rfl⟩) ?_
              refine (DR.out w (J20.out.trans hG) rfl).mono ?_
              intro e w' hE
              obtain ⟨a, c, rfl, ho, hk⟩ := RhE hE
              refine ⟨_, rfl, ⟨a, c, rfl⟩, hk, fun a2 c2 e2 => ?_⟩
              simp only [Value.agg.injEq, Array.mk.injEq, List.cons.injEq, Value.slice.injEq, and_true, true_and] at e2
              obtain ⟨rfl, rfl⟩ := e2
              exact own_base ho hG.size) ?_
            rintro v ⟨ra, rc, rfl⟩
            simp only [Act.put, List.setIfInBounds_toArray, List.set_cons_zero, List.set_cons_succ]
            refine rv_rel (by kernel_rfl) rfl ⟨_, rfl⟩ (by
              intro w hG hH
              refine opVal_call (by go_simp; first | done | exact ⟨⟨rfl, rfl⟩, rfl⟩) ?_
              refine (SMC w ba ra bc rc (PLC (OB20.out.kbF hG)) (PLC (hH (4, _) List.mem_cons_self (by kernel_rfl) ra rc rfl))).mono ?_
              rintro e w' ⟨rfl, hq⟩
              exact ⟨_, rfl, rfl, by first | (obtain ⟨nq, rfl⟩ := hq; exact (KB.refl _ _).drewN _) | (subst hq; exact KB.refl _ _) | exact hq, trivial⟩) ?_
            rintro v rfl
            simp only [Act.put, List.setIfInBounds_toArray, List.set_cons_zero, List.set_cons_succ]
            refine rv_det (by kernel_rfl) rfl (by intro w hG hH; go_simp; first | done | with_reducible rfl) ?_
            simp only [Act.put, List.setIfInBounds_toArray, List.set_cons_zero, List.set_cons_succ]
            iterate 2 (refine rv_det (by kernel_rfl) rfl (by intro w hG hH; have hc0 := KB.cell hG (fun x => x) (u0); have hc1 := KB.cell hG (fun x => x) (u1); have hc2 := KB.cell hG (fun x => x) (u2); have hc3 := KB.cell hG (fun x => x) (u3); have hc4 := KB.cell hG (fun x => x) (u4); have hc5 := KB.cell hG (fun x => x) (q0); have hc6 := KB.cell hG (fun x => x) (q1); have hc7 := KB.cell hG (fun x => x) (q2); have hc8 := KB.cell hG (fun x => x) (q3); have hc9 := KB.cell hG (fun x => x) (q4); go_simp; first | done | with_reducible rfl) ?_; simp only [Act.put, List.setIfInBounds_toArray, List.set_cons_zero, List.set_cons_succ])
            refine rv_rel (by kernel_rfl) rfl ⟨_, rfl⟩ (by
              intro w hG hH
              refine opVal_call (by go_simp; first | done | exact ⟨⟨rfl, rfl⟩, rfl⟩) ?_
              refine (ST w ua qa uc qc ((OU20.out.kb hG (fun _ _ _ x => x)).at) ((OQ.out.1.2 49).kbF (J20.out.trans hG))).mono ?_
              rintro e w' ⟨rfl, hq⟩
              exact ⟨_, rfl, rfl, by first | (obtain ⟨nq, rfl⟩ := hq; exact (KB.refl _ _).drewN _) | (subst hq; exact KB.refl _ _) | exact hq, trivial⟩) ?_
            rintro v rfl
            simp only [Act.put, List.setIfInBounds_toArray, List.set_cons_zero, List.set_cons_succ]
            iterate 2 (refine rv_det (by kernel_rfl) rfl (by intro w hG hH; go_simp; first | done | with_reducible rfl) ?_; simp only [Act.put, List.setIfInBounds_toArray, List.set_cons_zero, List.set_cons_succ])
            iterate 2 (refine rv_det (by kernel_rfl) rfl (by intro w hG hH; have hc0 := KB.cell hG (fun x => x) (o0); have hc1 := KB.cell hG (fun x => x) (o1); have hc2 := KB.cell hG (fun x => x) (p0); have hc3 := KB.cell hG (fun x => x) (p1); go_simp; first | done | with_reducible rfl) ?_; simp only [Act.put, List.setIfInBounds_toArray, List.set_cons_zero, List.set_cons_succ])
            refine rv_rel (by kernel_rfl) rfl ⟨_, rfl⟩ (by
              intro w hG hH
              refine opVal_call (by go_simp; first | done | exact ⟨⟨rfl, rfl⟩, rfl⟩) ?_
              refine (DK.out w (LA2.out.kbF (J20.out.trans hG)) (J20.out.trans hG)).mono ?_
              rintro e w' ⟨rfl, hq⟩
              exact ⟨_, rfl, rfl, by first | (obtain ⟨nq, rfl⟩ := hq; exact (KB.refl _ _).drewN _) | (subst hq; exact KB.refl _ _) | exact hq, trivial⟩) ?_
            rintro v rfl
            simp only [Act.put, List.setIfInBounds_toArray, List.set_cons_zero, List.set_cons_succ]
            iterate 2 (refine rv_det (by kernel_rfl) rfl (by intro w hG hH; go_simp; first | done | with_reducible rfl) ?_; simp only [Act.put, List.setIfInBounds_toArray, List.set_cons_zero, List.set_cons_succ])
            refine rv_rel (by kernel_rfl) rfl ⟨_, rfl⟩ (by
              intro w hG hH
              refine opVal_call (by go_simp; first | done | exact ⟨⟨rfl, rfl⟩, rfl⟩) ?_
              refine (AW.out w (K3.out.trans (J20.out.trans hG))).mono ?_
              rintro e w' ⟨rfl, hq⟩
              exact ⟨_, rfl, rfl, by first | (obtain ⟨nq, rfl⟩ := hq; exact (KB.refl _ _).drewN _) | (subst hq; exact KB.refl _ _) | exact hq, trivial⟩) ?_
            rintro v rfl
            simp only [Act.put, List.setIfInBounds_toArray, List.set_cons_zero, List.set_cons_succ]
            iterate 2 (refine rv_det (by kernel_rfl) rfl (by intro w hG hH; go_simp; first | done | with_reducible rfl) ?_; simp only [Act.put, List.setIfInBounds_toArray, List.set_cons_zero, List.set_cons_succ])
            refine rv_nil (fun w hG hH => ?_)
            have KF := Lib.hid (HB.out.1.trans (K3.out.trans (J20.out.trans hG)))
            clear hG hH b0 b1 p0 p1 o0 o1 u0 u1 u2 u3 u4 q0 q1 q2 q3 q4
            go_wp2_with fail
            go_ret
            exact ⟨rfl, KF.out⟩
end Go.Proofs.YtpigppghcghpbaaGreatDoor

/- loanwordlaw09.awake. -/
import Derived.Test.YtpigppghcghpbaaGreatDoorPlU
namespace Go.Proofs.YtpigppghcghpbaaGreatDoor
open Go.RowKit

def starP : Pl := ⟨0, [-1]⟩
theorem star_text : textP starP = [95, 48, 46, 42] := by
  have h : Lib.itoa 0 = [48] := by
    unfold Lib.itoa
    rw [if_neg (by decide)]
    show Lib.decDigits 0 = [48]
    rw [Lib.decDigits, dif_pos (by decide)]
    rfl
  have hb : badP starP = false := by decide
  unfold textP
  rw [if_neg (by rw [hb]; decide)]
  show 95 :: (Lib.itoa 0 ++ dotL [tailT (-1)]) = _
  rw [h]
  rfl
theorem star_read : rdL [95, 48, 46, 42] = some starP := by
  rw [← star_text, text_back starP (by decide) (by decide) (by decide)]
  rfl
theorem star64 : Pl64 starP := by
  refine ⟨⟨by decide, by decide⟩, ?_⟩
  intro k hk
  have h2 : k ∈ [(-1 : Int)] := hk
  rw [List.mem_singleton] at h2
  subst h2
  exact ⟨by decide, by decide⟩

set_option maxRecDepth 100000 in
set_option maxHeartbeats 16000000 in
theorem awake_any (w : World) (hT : TabP w) : Calls Tryz.prog 10 #[] w fun e w' => e = .returned (.bool true) ∧ KB F0 w w' := by
  obtain ⟨w0, rfl⟩ : ∃ w0, w0 = w := ⟨_, rfl⟩
  obtain ⟨W, hW⟩ : ∃ W, W = ((((w0.alloc (.cells #[.int .u8 1, .bool false, .int .i64 0, .int .i64 0, .slice none 0 0] 36)).alloc (.cells #[.int .u8 4, .bool true, .int .i64 (-1), .int .i64 0, .slice (some ⟨w0.heap.size, 0, none⟩) 1 1] 36)).alloc (.cells #[.int .i64 (-1)] 56)).alloc (.cells #[.int .i64 0, .slice (some ⟨w0.heap.size + 1 + 1, 0, none⟩) 1 1] 26)) := ⟨_, rfl⟩
  obtain ⟨k3, b1, b2, b3, hs3⟩ := new3 w0 #[.int .u8 1, .bool false, .int .i64 0, .int .i64 0, .slice none 0 0] #[.int .u8 4, .bool true, .int .i64 (-1), .int .i64 0, .slice (some ⟨w0.heap.size, 0, none⟩) 1 1] #[.int .i64 (-1)] 36 36 56
  have ka := (KB.refl F0 (((w0.alloc (.cells #[.int .u8 1, .bool false, .int .i64 0, .int .i64 0, .slice none 0 0] 36)).alloc (.cells #[.int .u8 4, .bool true, .int .i64 (-1), .int .i64 0, .slice (some ⟨w0.heap.size, 0, none⟩) 1 1] 36)).alloc (.cells #[.int .i64 (-1)] 56))).alloc (.cells #[.int .i64 0, .slice (some ⟨w0.heap.size + 1 + 1, 0, none⟩) 1 1] 26)
  have hb4 := alloc_new (((w0.alloc (.cells #[.int .u8 1, .bool false, .int .i64 0, .int .i64 0, .slice none 0 0] 36)).alloc (.cells #[.int .u8 4, .bool true, .int .i64 (-1), .int .i64 0, .slice (some ⟨w0.heap.size, 0, none⟩) 1 1] 36)).alloc (.cells #[.int .i64 (-1)] 56)) (.cells #[.int .i64 0, .slice (some ⟨w0.heap.size + 1 + 1, 0, none⟩) 1 1] 26)
  rw [hs3] at hb4
  rw [← hW] at ka hb4
  have hRT : RefTysAt W (w0.heap.size + 1) w0.heap.size := ⟨ka.heap (fun x => x) b2, ka.heap (fun x => x) b1⟩
  have hST : StarAt W (w0.heap.size + 1 + 1) := blk_cell (ka.heap (fun x => x) b3) 0
  have H := Lib.hid (And.intro (k3.trans ka) (And.intro hRT (And.intro hST (And.intro hb4 hT))))
  have HW := Lib.hid hW
  clear k3 b1 b2 b3 hs3 ka hb4 hRT hST hW hT
  go_enter Tryz.func10, Tryz.ntmps10
  go_wp2_with fail
  rw [← HW.out]
  have K0 : Hid (KB F0 W W) := Lib.hid (KB.refl _ _)
  refine (ptype_star (w0.heap.size + 1) w0.heap.size 0 1 (w0.heap.size + 1 + 1) _ (H.out.2.1.kb K0.out) (H.out.2.2.1.kb K0.out)).mono ?_
  rintro e w1 ⟨rfl, k1⟩
  unfold tyI
  have kx := k1.alloc (.cells #[.int .u8 1, .bool false, .int .i64 0, .int .i64 0, .slice none 0 0] 36)
  have hb3 := alloc_new w1 (.cells #[.int .u8 1, .bool false, .int .i64 0, .int .i64 0, .slice none 0 0] 36)
  have K1 := Lib.hid (K0.out.trans kx)
  have B3 := Lib.hid hb3
  clear k1 kx hb3
  have hb := K1.out.heap (fun x => x) H.out.2.2.2.1
  have p0 : (w1.alloc (.cells #[.int .u8 1, .bool false, .int .i64 0, .int .i64 0, .slice none 0 0] 36)).cell? ⟨w0.heap.size + 1 + 1 + 1, 0, none⟩ = some (.int .i64 0) := blk_cell hb 0
  have p1 : (w1.alloc (.cells #[.int .u8 1, .bool false, .int .i64 0, .int .i64 0, .slice none 0 0] 36)).cell? ⟨w0.heap.size + 1 + 1 + 1, 1, none⟩ = some (.slice (some ⟨w0.heap.size + 1 + 1, 0, none⟩) 1 1) := blk_cell hb 1
  clear hb
  go_wp2_with fail
  refine (within_aw 3 2 (Or.inr ⟨rfl, rfl⟩) (w0.heap.size + 1) w0.heap.size 0 1 (w0.heap.size + 1 + 1) (Nat.le_refl _) _ (H.out.2.1.kb K1.out) (H.out.2.2.1.kb K1.out)).mono ?_
  rintro e w2 ⟨rfl, k2⟩
  have K2 := Lib.hid (K1.out.trans k2)
  have B3 := Lib.hid (k2.heap (fun x => x) B3.out)
  rw [show decide ((3 : Int) = 3) = true from rfl]
  clear k2 p0 p1
  have hb := K2.out.heap (fun x => x) H.out.2.2.2.1
  have p0 : (w2).cell? ⟨w0.heap.size + 1 + 1 + 1, 0, none⟩ = some (.int .i64 0) := blk_cell hb 0
  have p1 : (w2).cell? ⟨w0.heap.size + 1 + 1 + 1, 1, none⟩ = some (.slice (some ⟨w0.heap.size + 1 + 1, 0, none⟩) 1 1) := blk_cell hb 1
  clear hb
  go_wp2_with fail
  refine (within_aw 2 1 (Or.inl ⟨rfl, rfl⟩) (w0.heap.size + 1) w0.heap.size 0 1 (w0.heap.size + 1 + 1) (Nat.le_refl _) _ (H.out.2.1.kb K2.out) (H.out.2.2.1.kb K2.out)).mono ?_
  rintro e w3 ⟨rfl, k3⟩
  have K3 := Lib.hid (K2.out.trans k3)
  have B3 := Lib.hid (k3.heap (fun x => x) B3.out)
  rw [show decide ((2 : Int) = 3) = false from rfl]
  clear k3 p0 p1
  have hb := K3.out.heap (fun x => x) H.out.2.2.2.1
  have p0 : (w3).cell? ⟨w0.heap.size + 1 + 1 + 1, 0, none⟩ = some (.int .i64 0) := blk_cell hb 0
  have p1 : (w3).cell? ⟨w0.heap.size + 1 + 1 + 1, 1, none⟩ = some (.slice (some ⟨w0.heap.size + 1 + 1, 0, none⟩) 1 1) := blk_cell hb 1
  clear hb
  go_wp2_with fail
  refine (held_aw (w0.heap.size + 1) w0.heap.size 0 1 (w0.heap.size + 1 + 1) (Nat.le_refl _) _ (H.out.2.1.kb K3.out) (H.out.2.2.1.kb K3.out)).mono ?_
  rintro e w4 ⟨a, na, rfl, k4⟩
  have kx := k4.alloc (.cells #[.int .i64 0, .slice a 0 na] 26)
  have hb9 := alloc_new w4 (.cells #[.int .i64 0, .slice a 0 na] 26)
  have K4 := Lib.hid (K3.out.trans kx)
  have B3 := Lib.hid (kx.heap (fun x => x) B3.out)
  have B9 := Lib.hid hb9
  have RD := Lib.hid (read_any ⟨#[95, 48, 46, 42]⟩ (by decide) _ (H.out.2.2.2.2.kb (H.out.1.trans K4.out)))
  rw [show (⟨#[95, 48, 46, 42]⟩ : ByteArray).data.toList = [95, 48, 46, 42] from rfl, star_read] at RD
  clear k4 kx hb9 p0 p1
  go_wp2_with fail
  refine RD.out.mono ?_
  rintro e w5 ⟨v, rfl, ho, k5⟩
  obtain ⟨ra, rc, rfl, hrl, -, hri⟩ := ho.at
  have kx := k5.alloc (.cells #[.int .i64 0, .slice ra 1 rc] 26)
  have hb11 := alloc_new w5 (.cells #[.int .i64 0, .slice ra 1 rc] 26)
  have K5 := Lib.hid (K4.out.trans kx)
  have c3 : (w5.alloc (.cells #[.int .i64 0, .slice ra 1 rc] 26)).cell? ⟨w1.heap.size, 0, none⟩ = some (.int .u8 1) := blk_cell (kx.heap (fun x => x) B3.out) 0
  have c9 : (w5.alloc (.cells #[.int .i64 0, .slice ra 1 rc] 26)).cell? ⟨w4.heap.size, 1, none⟩ = some (.slice a 0 na) := blk_cell (kx.heap (fun x => x) B9.out) 1
  have RI := Lib.hid (show PlAt (w5.alloc (.cells #[.int .i64 0, .slice ra 1 rc] 26)) starP ra rc from ⟨hri.kbF ((KB.refl _ _).alloc _), hrl, by decide⟩)
  rw [show (rdP (some starP)).loc = 0 from rfl, show (rdP (some starP)).path.length = 1 from rfl, show rdE (some starP) = 0 from rfl]
  clear k5 kx hb11 ho hri hrl B3 B9 RD
  have hb := K5.out.heap (fun x => x) H.out.2.2.2.1
  have p0 : (w5.alloc (.cells #[.int .i64 0, .slice ra 1 rc] 26)).cell? ⟨w0.heap.size + 1 + 1 + 1, 0, none⟩ = some (.int .i64 0) := blk_cell hb 0
  have p1 : (w5.alloc (.cells #[.int .i64 0, .slice ra 1 rc] 26)).cell? ⟨w0.heap.size + 1 + 1 + 1, 1, none⟩ = some (.slice (some ⟨w0.heap.size + 1 + 1, 0, none⟩) 1 1) := blk_cell hb 1
  clear hb
  have SM := Lib.hid (same_any starP starP (some ⟨w0.heap.size + 1 + 1, 0, none⟩) ra 1 rc _ ((H.out.2.2.1.kb K5.out).pl (Nat.le_refl _)) RI.out)
  rw [show decide (ordP starP starP = 0) = true from by decide] at SM
  have TX := Lib.hid (fun (V : World) (hk : KB F0 W V) => text_any starP star64 (some ⟨w0.heap.size + 1 + 1, 0, none⟩) 1 V (H.out.2.2.2.2.kb (H.out.1.trans hk)) ((H.out.2.2.1.kb hk).pl (Nat.le_refl _)))
  rw [star_text] at TX
  have PM := Lib.hid (fun (V : World) (hk : KB F0 W V) => pmay_star (w0.heap.size + 1) w0.heap.size 0 1 (w0.heap.size + 1 + 1) V (H.out.2.1.kb hk) (H.out.2.2.1.kb hk))
  have PF := Lib.hid (fun (V : World) (hk : KB F0 W V) => prefix_any ⟨0, []⟩ starP none (some ⟨w0.heap.size + 1 + 1, 0, none⟩) 0 1 V (bare_pl V 0) ((H.out.2.2.1.kb hk).pl (Nat.le_refl _)))
  rw [show preB ⟨0, []⟩ starP = true from by decide] at PF
  have PS := Lib.hid (fun (V : World) (hk : KB F0 W V) => pres_any starP (some ⟨w0.heap.size + 1 + 1, 0, none⟩) 1 V ((H.out.2.2.1.kb hk).pl (Nat.le_refl _)))
  unfold plV starP at SM TX PF PS
  simp only [List.length_nil, List.length_cons, Nat.zero_add] at SM TX PF PS
  go_wp2_with fail
  refine SM.out.mono ?_
  rintro e w6 ⟨rfl, k6⟩
  have K6 := Lib.hid (K5.out.trans k6)
  clear k6 p0 p1 c3 c9
  have hb := K6.out.heap (fun x => x) H.out.2.2.2.1
  have p0 : (w6).cell? ⟨w0.heap.size + 1 + 1 + 1, 0, none⟩ = some (.int .i64 0) := blk_cell hb 0
  have p1 : (w6).cell? ⟨w0.heap.size + 1 + 1 + 1, 1, none⟩ = some (.slice (some ⟨w0.heap.size + 1 + 1, 0, none⟩) 1 1) := blk_cell hb 1
  clear hb
  go_wp2_with fail
  refine (TX.out _ K6.out).mono ?_
  rintro e w7 ⟨rfl, k7⟩
  have K7 := Lib.hid (K6.out.trans k7)
  clear k7 p0 p1
  have hb := K7.out.heap (fun x => x) H.out.2.2.2.1
  have p0 : (w7).cell? ⟨w0.heap.size + 1 + 1 + 1, 0, none⟩ = some (.int .i64 0) := blk_cell hb 0
  have p1 : (w7).cell? ⟨w0.heap.size + 1 + 1 + 1, 1, none⟩ = some (.slice (some ⟨w0.heap.size + 1 + 1, 0, none⟩) 1 1) := blk_cell hb 1
  clear hb
  go_wp2_with fail
  refine (PM.out _ K7.out).mono ?_
  rintro e w8 ⟨rfl, k8⟩
  have K8 := Lib.hid (K7.out.trans k8)
  clear k8 p0 p1
  have hb := K8.out.heap (fun x => x) H.out.2.2.2.1
  have p0 : (w8).cell? ⟨w0.heap.size + 1 + 1 + 1, 0, none⟩ = some (.int .i64 0) := blk_cell hb 0
  have p1 : (w8).cell? ⟨w0.heap.size + 1 + 1 + 1, 1, none⟩ = some (.slice (some ⟨w0.heap.size + 1 + 1, 0, none⟩) 1 1) := blk_cell hb 1
  clear hb
  go_wp2_with fail
  refine (PF.out _ K8.out).mono ?_
  rintro e w9 ⟨rfl, k9⟩
  have K9 := Lib.hid (K8.out.trans k9)
  clear k9 p0 p1
  have hb := K9.out.heap (fun x => x) H.out.2.2.2.1
  have p0 : (w9).cell? ⟨w0.heap.size + 1 + 1 + 1, 0, none⟩ = some (.int .i64 0) := blk_cell hb 0
  have p1 : (w9).cell? ⟨w0.heap.size + 1 + 1 + 1, 1, none⟩ = some (.slice (some ⟨w0.heap.size + 1 + 1, 0, none⟩) 1 1) := blk_cell hb 1
  clear hb
  go_wp2_with fail
  refine (PS.out _ K9.out).mono ?_
  rintro e w10 ⟨v, vs, rfl, hps, k10⟩
  obtain ⟨la, lc, rfl⟩ := own_lenP hps.row
  rw [show (presL [-1]).length = 2 from rfl]
  have K10 := Lib.hid (K9.out.trans k10)
  clear k10 p0 p1 hps
  go_wp2_with fail
  go_ret
  exact ⟨rfl, H.out.1.trans K10.out⟩
end Go.Proofs.YtpigppghcghpbaaGreatDoor

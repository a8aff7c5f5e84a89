/- place.May, Type, Within, Held of awake's places. -/
import Derived.Test.YtpigppghcghpbaaGreatDoorPlN
namespace Go.Proofs.YtpigppghcghpbaaGreatDoor
open Go.RowKit

theorem StarAt.kb {w w' : World} {q : Nat} (h : StarAt w q) (hk : KB F0 w w') : StarAt w' q := hk.cell (p := ⟨q, 0, none⟩) (fun x => x) h
theorem StarAt.pl {w : World} {q c : Nat} (h : StarAt w q) (hc : 1 ≤ c) : PlAt w ⟨0, [-1]⟩ (some ⟨q, 0, none⟩) c := ⟨fun k hk => by
  obtain rfl : k = 0 := by simp at hk; omega
  exact ⟨q, 0, rfl, h⟩, hc, by decide⟩
theorem bare_pl (w : World) (c : Nat) : PlAt w ⟨0, []⟩ none c := ⟨fun k hk => by simp at hk, Nat.zero_le _, by decide⟩
set_option maxRecDepth 100000 in
set_option maxHeartbeats 8000000 in
theorem pmay_bare (l g c d : Nat) (w : World) (h : RefTysAt w l g) :
    Calls Tryz.prog 29 #[.slice none 0 c, .slice (some ⟨l, 0, none⟩) 1 1, .agg #[.int .i64 0, .slice none 0 d]] w fun e w' => e = .returned (.bool true) ∧ KB F0 w w' := by
  obtain ⟨w0, rfl⟩ : ∃ w0, w0 = w := ⟨_, rfl⟩
  have ka := (KB.refl F0 w0).alloc (.cells #[.int .i64 0, .slice none 0 d] 26)
  have HA := Lib.hid ka
  have WK := Lib.hid (walk_bare l g c d _ (h.kb ka))
  unfold tyR at WK
  clear ka h
  go_enter Tryz.func29, Tryz.ntmps29
  go_wp2_with fail
  refine WK.out.mono ?_
  rintro e w1 ⟨rfl, k1⟩
  have HK := Lib.hid (HA.out.trans k1)
  clear k1
  go_wp2_with fail
  go_ret
  exact ⟨rfl, HK.out.alloc _⟩
set_option maxRecDepth 100000 in
set_option maxHeartbeats 8000000 in
theorem pmay_star (l g c d q : Nat) (w : World) (h : RefTysAt w l g) (hq : StarAt w q) :
    Calls Tryz.prog 29 #[.slice none 0 c, .slice (some ⟨l, 0, none⟩) 1 1, .agg #[.int .i64 0, .slice (some ⟨q, 0, none⟩) 1 d]] w fun e w' => e = .returned (.bool true) ∧ KB F0 w w' := by
  obtain ⟨w0, rfl⟩ : ∃ w0, w0 = w := ⟨_, rfl⟩
  have ka := (KB.refl F0 w0).alloc (.cells #[.int .i64 0, .slice (some ⟨q, 0, none⟩) 1 d] 26)
  have HA := Lib.hid ka
  have WK := Lib.hid (walk_star l g c d q _ (h.kb ka) (hq.kb ka))
  unfold tyI at WK
  clear ka h hq
  go_enter Tryz.func29, Tryz.ntmps29
  go_wp2_with fail
  refine WK.out.mono ?_
  rintro e w1 ⟨v, rfl, ho, k1⟩
  obtain ⟨va, vc, rfl⟩ := own_lenP ho
  have HK := Lib.hid (HA.out.trans k1)
  clear k1 ho
  go_wp2_with fail
  go_ret
  exact ⟨rfl, HK.out.alloc _⟩
set_option maxRecDepth 100000 in
set_option maxHeartbeats 8000000 in
theorem ptype_star (l g c d q : Nat) (w : World) (h : RefTysAt w l g) (hq : StarAt w q) :
    Calls Tryz.prog 31 #[.slice none 0 c, .slice (some ⟨l, 0, none⟩) 1 1, .agg #[.int .i64 0, .slice (some ⟨q, 0, none⟩) 1 d]] w fun e w' => e = .returned (.tuple #[tyI, .int .i64 0]) ∧ KB F0 w w' := by
  obtain ⟨w0, rfl⟩ : ∃ w0, w0 = w := ⟨_, rfl⟩
  obtain ⟨hk, -, hb2⟩ := new2 w0 #[.int .i64 0, .slice (some ⟨q, 0, none⟩) 1 d] ty0c 26 36
  have WK := Lib.hid (walk_star l g c d q _ (h.kb hk) (hq.kb hk))
  have OI := Lib.hid (fun w => Own_int w)
  unfold tyI at WK OI ⊢
  unfold ty0c at hk hb2 WK
  have HB := Lib.hid (And.intro hk hb2)
  clear hk hb2 h hq
  go_enter Tryz.func31, Tryz.ntmps31
  go_wp2_with fail
  refine WK.out.mono ?_
  rintro e w1 ⟨v, rfl, ho, k1⟩
  obtain ⟨va, vc, rfl⟩ := own_lenP ho
  have H1 := Lib.hid (And.intro (HB.out.1.trans k1) (k1.heap (fun x => x) HB.out.2))
  clear k1 ho
  go_wp2_with fail
  refine (OI.out _).mono ?_
  rintro e w2 ⟨rfl, k2⟩
  have k12 := ((KB.refl F0 w1).alloc (.cells #[.int .u8 1, .bool false, .int .i64 0, .int .i64 0, .slice none 0 0] 36)).trans k2
  have hb := k12.heap (fun x => x) H1.out.2
  have d0 : w2.cell? ⟨w0.heap.size + 1, 0, none⟩ = some (.int .u8 0) := blk_cell hb 0
  have d1 : w2.cell? ⟨w0.heap.size + 1, 1, none⟩ = some (.bool false) := blk_cell hb 1
  have d2 : w2.cell? ⟨w0.heap.size + 1, 2, none⟩ = some (.int .i64 0) := blk_cell hb 2
  have d3 : w2.cell? ⟨w0.heap.size + 1, 3, none⟩ = some (.int .i64 0) := blk_cell hb 3
  have d4 : w2.cell? ⟨w0.heap.size + 1, 4, none⟩ = some (.slice none 0 0) := blk_cell hb 4
  have f0 := blk_frozen hb 0
  have f1 := blk_frozen hb 1
  have f2 := blk_frozen hb 2
  have f3 := blk_frozen hb 3
  have f4 := blk_frozen hb 4
  have H2 := Lib.hid (And.intro (H1.out.1.trans k12) hb)
  clear k2 k12 hb
  go_wp2_with fail
  refine ret_ty2 (X := w0.heap.size + 1) rfl rfl rfl (set5_blk H2.out.2 (.int .u8 1) (.bool false) (.int .i64 0) (.int .i64 0) (.slice none 0 0)) rfl ⟨rfl, ?_⟩
  exact set5_new H2.out.1 (Nat.le_succ _) _ _ _ _ _
set_option maxRecDepth 100000 in
set_option maxHeartbeats 8000000 in
theorem limit_any (d m : Int) (h : d = 2 ∧ m = 1 ∨ d = 3 ∧ m = 2) (w : World) : Calls Tryz.prog 37 #[.int .u8 d] w fun e w' => e = .returned (.int .i64 m) ∧ w' = w := by
  rcases h with ⟨rfl, rfl⟩ | ⟨rfl, rfl⟩
  · go_enter Tryz.func37, Tryz.ntmps37
    go_wp2_with fail
    go_ret
    exact ⟨rfl, rfl⟩
  · go_enter Tryz.func37, Tryz.ntmps37
    go_wp2_with fail
    go_ret
    exact ⟨rfl, rfl⟩
end Go.Proofs.YtpigppghcghpbaaGreatDoor

/- place.May, Type, Within, Held of awake's places. place.Within, Held of awake's places. -/
import Derived.Test.YtpigppghcghpbaaGreatDoorPlN
namespace Go.Proofs.YtpigppghcghpbaaGreatDoor
open Go.RowKit

theorem StarAt.kb {w w' : World} {q : Nat} (h : StarAt w q) (hk : KB F0 w w') : StarAt w' q := hk.cell (p := ⟨q, 0, none⟩) (fun x => x) h
theorem StarAt.pl {w : World} {q c : Nat} (h : StarAt w q) (hc : 1 ≤ c) : PlAt w ⟨0, [-1]⟩ (some ⟨q, 0, none⟩) c := ⟨fun k hk => by
  obtain rfl : k = 0 := by simp at hk; omega
  exact ⟨q, 0, rfl, h⟩, hc, by decide⟩
theorem bare_pl (w : World) (c : Nat) : PlAt w ⟨0, []⟩ none c := ⟨fun k hk => by simp at hk, Nat.zero_le _, by decide⟩
set_option maxRecDepth 100000 in
set_option maxHeartbeats 8000000 in
theorem pmay_bare (l g c d : Nat) (w : World) (h : RefTysAt w l g) :
    Calls Tryz.prog 29 #[.slice none 0 c, .slice (some ⟨l, 0, none⟩) 1 1, .agg #[.int .i64 0, .slice none 0 d]] w fun e w' => e = .returned (.bool true) ∧ KB F0 w w' := by
  obtain ⟨w0, rfl⟩ : ∃ w0, w0 = w := ⟨_, rfl⟩
  have ka := (KB.refl F0 w0).alloc (.cells #[.int .i64 0, .slice none 0 d] 26)
  have HA := Lib.hid ka
  have WK := Lib.hid (walk_bare l g c d _ (h.kb ka))
  unfold tyR at WK
  clear ka h
  go_enter Tryz.func29, Tryz.ntmps29
  go_wp2_with fail
  refine WK.out.mono ?_
  rintro e w1 ⟨rfl, k1⟩
  have HK := Lib.hid (HA.out.trans k1)
  clear k1
  go_wp2_with fail
  go_ret
  exact ⟨rfl, HK.out.alloc _⟩
set_option maxRecDepth 100000 in
set_option maxHeartbeats 8000000 in
theorem pmay_star (l g c d q : Nat) (w : World) (h : RefTysAt w l g) (hq : StarAt w q) :
    Calls Tryz.prog 29 #[.slice none 0 c, .slice (some ⟨l, 0, none⟩) 1 1, .agg #[.int .i64 0, .slice (some ⟨q, 0, none⟩) 1 d]] w fun e w' => e = .returned (.bool true) ∧ KB F0 w w' := by
  obtain ⟨w0, rfl⟩ : ∃ w0, w0 = w := ⟨_, rfl⟩
  have ka := (KB.refl F0 w0).alloc (.cells #[.int .i64 0, .slice (some ⟨q, 0, none⟩) 1 d] 26)
  have HA := Lib.hid ka
  have WK := Lib.hid (walk_star l g c d q _ (h.kb ka) (hq.kb ka))
  unfold tyI at WK
  clear ka h hq
  go_enter Tryz.func29, Tryz.ntmps29
  go_wp2_with fail
  refine WK.out.mono ?_
  rintro e w1 ⟨v, rfl, ho, k1⟩
  obtain ⟨va, vc, rfl⟩ := own_lenP ho
  have HK := Lib.hid (HA.out.trans k1)
  clear k1 ho
  go_wp2_with fail
  go_ret
  exact ⟨rfl, HK.out.alloc _⟩
set_option maxRecDepth 100000 in
set_option maxHeartbeats 8000000 in
theorem ptype_star (l g c d q : Nat) (w : World) (h : RefTysAt w l g) (hq : StarAt w q) :
    Calls Tryz.prog 31 #[.slice none 0 c, .slice (some ⟨l, 0, none⟩) 1 1, .agg #[.int .i64 0, .slice (some ⟨q, 0, none⟩) 1 d]] w fun e w' => e = .returned (.tuple #[tyI, .int .i64 0]) ∧ KB F0 w w' := by
  obtain ⟨w0, rfl⟩ : ∃ w0, w0 = w := ⟨_, rfl⟩
  obtain ⟨hk, -, hb2⟩ := new2 w0 #[.int .i64 0, .slice (some ⟨q, 0, none⟩) 1 d] ty0c 26 36
  have WK := Lib.hid (walk_star l g c d q _ (h.kb hk) (hq.kb hk))
  have OI := Lib.hid (fun w => Own_int w)
  unfold tyI at WK OI ⊢
  unfold ty0c at hk hb2 WK
  have HB := Lib.hid (And.intro hk hb2)
  clear hk hb2 h hq
  go_enter Tryz.func31, Tryz.ntmps31
  go_wp2_with fail
  refine WK.out.mono ?_
  rintro e w1 ⟨v, rfl, ho, k1⟩
  obtain ⟨va, vc, rfl⟩ := own_lenP ho
  have H1 := Lib.hid (And.intro (HB.out.1.trans k1) (k1.heap (fun x => x) HB.out.2))
  clear k1 ho
  go_wp2_with fail
  refine (OI.out _).mono ?_
  rintro e w2 ⟨rfl, k2⟩
  have k12 := ((KB.refl F0 w1).alloc (.cells #[.int .u8 1, .bool false, .int .i64 0, .int .i64 0, .slice none 0 0] 36)).trans k2
  have hb := k12.heap (fun x => x) H1.out.2
  have d0 : w2.cell? ⟨w0.heap.size + 1, 0, none⟩ = some (.int .u8 0) := blk_cell hb 0
  have d1 : w2.cell? ⟨w0.heap.size + 1, 1, none⟩ = some (.bool false) := blk_cell hb 1
  have d2 : w2.cell? ⟨w0.heap.size + 1, 2, none⟩ = some (.int .i64 0) := blk_cell hb 2
  have d3 : w2.cell? ⟨w0.heap.size + 1, 3, none⟩ = some (.int .i64 0) := blk_cell hb 3
  have d4 : w2.cell? ⟨w0.heap.size + 1, 4, none⟩ = some (.slice none 0 0) := blk_cell hb 4
  have f0 := blk_frozen hb 0
  have f1 := blk_frozen hb 1
  have f2 := blk_frozen hb 2
  have f3 := blk_frozen hb 3
  have f4 := blk_frozen hb 4
  have H2 := Lib.hid (And.intro (H1.out.1.trans k12) hb)
  clear k2 k12 hb
  go_wp2_with fail
  refine ret_ty2 (X := w0.heap.size + 1) rfl rfl rfl (set5_blk H2.out.2 (.int .u8 1) (.bool false) (.int .i64 0) (.int .i64 0) (.slice none 0 0)) rfl ⟨rfl, ?_⟩
  exact set5_new H2.out.1 (Nat.le_succ _) _ _ _ _ _
set_option maxRecDepth 100000 in
set_option maxHeartbeats 8000000 in
theorem limit_any (d m : Int) (h : d = 2 ∧ m = 1 ∨ d = 3 ∧ m = 2) (w : World) : Calls Tryz.prog 37 #[.int .u8 d] w fun e w' => e = .returned (.int .i64 m) ∧ w' = w := by
  rcases h with ⟨rfl, rfl⟩ | ⟨rfl, rfl⟩
  · go_enter Tryz.func37, Tryz.ntmps37
    go_wp2_with fail
    go_ret
    exact ⟨rfl, rfl⟩
  · go_enter Tryz.func37, Tryz.ntmps37
    go_wp2_with fail
    go_ret
    exact ⟨rfl, rfl⟩
end Go.Proofs.YtpigppghcghpbaaGreatDoor

namespace Go.Proofs.YtpigppghcghpbaaGreatDoor
open Go.RowKit

set_option maxRecDepth 100000 in
set_option maxHeartbeats 8000000 in
theorem within_aw (dd m : Int) (hd : dd = 2 ∧ m = 1 ∨ dd = 3 ∧ m = 2) (l g c d q : Nat) (hd1 : 1 ≤ d) (w : World) (h : RefTysAt w l g) (hq : StarAt w q) :
    Calls Tryz.prog 12 #[.slice none 0 c, .slice (some ⟨l, 0, none⟩) 1 1, .agg #[.int .i64 0, .slice none 0 0], .agg #[.int .i64 0, .slice (some ⟨q, 0, none⟩) 1 d], .int .u8 dd] w fun e w' => e = .returned (.tuple #[.bool (decide (dd = 3)), .int .i64 0]) ∧ KB F0 w w' := by
  obtain ⟨w0, rfl⟩ : ∃ w0, w0 = w := ⟨_, rfl⟩
  obtain ⟨hk, hb1, hb2⟩ := new2 w0 #[.int .i64 0, .slice none 0 0] #[.int .i64 0, .slice (some ⟨q, 0, none⟩) 1 d] 26 26
  have WK := Lib.hid (walk_star l g c d q _ (h.kb hk) (hq.kb hk))
  have PM := Lib.hid (fun (W : World) (hk : KB F0 w0 W) => pmay_bare l g c 0 W (h.kb hk))
  have PP := Lib.hid (fun (W : World) (hk : KB F0 w0 W) => prefix_any ⟨0, []⟩ ⟨0, [-1]⟩ none (some ⟨q, 0, none⟩) 0 d W (bare_pl W 0) ((hq.kb hk).pl hd1))
  rw [show preB ⟨0, []⟩ ⟨0, [-1]⟩ = true from rfl] at PP
  have LM := Lib.hid (fun (W : World) => limit_any dd m hd W)
  unfold tyI at WK
  unfold plV at PP
  simp only [List.length_nil, List.length_cons, Nat.zero_add] at PP
  have HB := Lib.hid (And.intro hk (And.intro hb1 hb2))
  have Hdd := Lib.hid hd
  have t1 : decide (dd < 1) = false := decide_eq_false (by omega)
  have t2 : decide (3 < dd) = false := decide_eq_false (by omega)
  have t3 : decide (m < 0) = false := decide_eq_false (by omega)
  clear hk hb1 hb2 h hq hd
  go_enter Tryz.func12, Tryz.ntmps12
  go_wp2_with fail
  refine WK.out.mono ?_
  rintro e w1 ⟨v, rfl, ho, k1⟩
  obtain ⟨va, vc, rfl, hvc, -, hcl, -⟩ := own_shape ho
  obtain ⟨gg, rfl, -, hgv⟩ := hcl 0 (by omega)
  have k1a := k1.alloc (.cells #[.int .u8 1, .bool false, .int .i64 0, .int .i64 0, .slice none 0 0] 36)
  have hgv := ((KB.refl F0 w1).alloc (.cells #[.int .u8 1, .bool false, .int .i64 0, .int .i64 0, .slice none 0 0] 36)).cell (p := ⟨gg, 0, none⟩) (fun x => x) hgv
  have hb1 := k1a.heap (fun x => x) HB.out.2.1
  have hb2 := k1a.heap (fun x => x) HB.out.2.2
  have H1 := Lib.hid (And.intro (HB.out.1.trans k1a) (And.intro hb1 (And.intro hb2 hgv)))
  have x0 : (w1.alloc (.cells #[.int .u8 1, .bool false, .int .i64 0, .int .i64 0, .slice none 0 0] 36)).cell? ⟨w0.heap.size, 0, none⟩ = some (.int .i64 0) := blk_cell hb1 0
  have x1 : (w1.alloc (.cells #[.int .u8 1, .bool false, .int .i64 0, .int .i64 0, .slice none 0 0] 36)).cell? ⟨w0.heap.size, 1, none⟩ = some (.slice none 0 0) := blk_cell hb1 1
  clear k1 k1a hb1 hb2 hgv ho hcl
  go_wp2_with fail
  refine (PM.out _ H1.out.1).mono ?_
  rintro e w2 ⟨rfl, k2⟩
  have H2 := Lib.hid (And.intro (H1.out.1.trans k2) (And.intro (k2.heap (fun x => x) H1.out.2.1) (And.intro (k2.heap (fun x => x) H1.out.2.2.1) (k2.cell (p := ⟨gg, 0, none⟩) (fun x => x) H1.out.2.2.2))))
  clear k2 x0 x1
  have x0 : w2.cell? ⟨w0.heap.size, 0, none⟩ = some (.int .i64 0) := blk_cell H2.out.2.1 0
  have x1 : w2.cell? ⟨w0.heap.size, 1, none⟩ = some (.slice none 0 0) := blk_cell H2.out.2.1 1
  have y0 : w2.cell? ⟨w0.heap.size + 1, 0, none⟩ = some (.int .i64 0) := blk_cell H2.out.2.2.1 0
  have y1 : w2.cell? ⟨w0.heap.size + 1, 1, none⟩ = some (.slice (some ⟨q, 0, none⟩) 1 d) := blk_cell H2.out.2.2.1 1
  go_wp2_with fail
  refine (PP.out _ H2.out.1).mono ?_
  rintro e w3 ⟨rfl, k3⟩
  have H3 := Lib.hid (And.intro (H2.out.1.trans k3) (k3.cell (p := ⟨gg, 0, none⟩) (fun x => x) H2.out.2.2.2))
  have x1' : w3.cell? ⟨w0.heap.size, 1, none⟩ = some (.slice none 0 0) := k3.cell (p := ⟨w0.heap.size, 1, none⟩) (fun x => x) x1
  clear k3 x0 x1 y0 y1
  go_wp2_with fail
  have c0 := H3.out.2
  clear x1'
  go_loopw [52] (fun kv wr => (kv = .int .i64 0 ∨ (kv = .int .i64 1 ∧ Hid (dd = 3))) ∧ wr = w3) (fun kv _ => 1 - (intOf kv).toNat)
  case atStart => exact ⟨Or.inl rfl, rfl⟩
  case round =>
    obtain ⟨rfl | ⟨rfl, h3⟩, rfl⟩ := hrel
    · rcases Hdd.out with ⟨g1, g2⟩ | ⟨g1, g2⟩
      · have HE : Hid (decide (dd = 3) = false) := Lib.hid (decide_eq_false (by omega))
        have t4 : decide (m < 2) = true := decide_eq_true (by omega)
        clear g1 g2
        go_wp2_with fail
        refine (LM.out _).mono ?_
        rintro e w4 ⟨rfl, rfl⟩
        go_wp2_with fail
        go_ret2
        exact ⟨ret_eq (by rw [HE.out]; rfl), H3.out.1⟩
      · have t4 : decide (m < 2) = false := decide_eq_false (by omega)
        have HD := Lib.hid g1
        clear g1 g2
        go_wp2_with fail
        refine (LM.out _).mono ?_
        rintro e w4 ⟨rfl, rfl⟩
        go_wp2_with fail
        exact ⟨⟨Or.inr ⟨rfl, HD⟩, trivial⟩, by simp [intOf]⟩
    · have HE : Hid (decide (dd = 3) = true) := Lib.hid (decide_eq_true h3.out)
      clear h3
      go_wp2_with fail
      go_ret2
      exact ⟨ret_eq (by rw [HE.out]; rfl), H3.out.1⟩
set_option maxRecDepth 100000 in
set_option maxHeartbeats 8000000 in
theorem held1_two (w : World) : Calls Tryz.prog 55 #[.int .i64 2] w fun e w' => e = .returned (.bool true) ∧ w' = w := by
  go_enter Tryz.func55, Tryz.ntmps55
  go_wp2_with fail
  go_ret
  exact ⟨rfl, rfl⟩
set_option maxRecDepth 100000 in
set_option maxHeartbeats 8000000 in
theorem indexInt_two (gg vc : Nat) (w : World) (h : w.cell? ⟨gg, 0, none⟩ = some (.int .i64 2)) :
    Calls Tryz.prog 54 #[.slice (some ⟨gg, 0, none⟩) 1 vc, .func (.func 55) #[] #[]] w fun e w' => e = .returned (.int .i64 0) ∧ w' = w := by
  obtain ⟨w0, rfl⟩ : ∃ w0, w0 = w := ⟨_, rfl⟩
  go_enter Tryz.func54, Tryz.ntmps54
  go_wp2_with fail
  go_loopw [8] (fun kv wr => kv = .int .i64 0 ∧ wr = w0) (fun _ _ => 0)
  case atStart => exact ⟨rfl, rfl⟩
  case round =>
    obtain ⟨rfl, rfl⟩ := hrel
    go_wp2_with fail
    refine (held1_two _).mono ?_
    rintro e w1 ⟨rfl, rfl⟩
    go_wp2_with fail
    go_ret
    exact ⟨rfl, rfl⟩
theorem ret_pl2 {fn : Func} {R : Ending → World → Prop} {a : Act} {w : World} {p q X : Nat} {x : Int} {v u : Value} (h : fn.results = #[.cell p 26, .tmp q]) (hp : a.tmps.getD p undef = .pointer (some ⟨X, 0, none⟩)) (hq : a.tmps.getD q undef = u)
    (hc : w.heap[X]? = some (.cells #[.int .i64 x, v] 26 (0, 0))) (hd : a.defers = []) (hR : R (.returned (.tuple #[.agg #[.int .i64 x, v], u])) w) : bodyPost Tryz.prog fn R .ret a w := by
  refine bodyPost_ret (v := .tuple #[.agg #[.int .i64 x, v], u]) ?_ hd hR
  have hp' : a.tmps[p]?.getD undef = .pointer (some ⟨X, 0, none⟩) := by simpa using hp
  have hq' : a.tmps[q]?.getD undef = u := by simpa using hq
  have c0 : w.cell? ⟨X, 0, none⟩ = some (.int .i64 x) := blk_cell hc 0
  have c1 : w.cell? ⟨X, 1, none⟩ = some v := blk_cell hc 1
  simp only [results, h]
  go_simp
set_option maxRecDepth 100000 in
set_option maxHeartbeats 8000000 in
theorem held_aw (l g c d q : Nat) (hd1 : 1 ≤ d) (w : World) (h : RefTysAt w l g) (hq : StarAt w q) :
    Calls Tryz.prog 30 #[.slice none 0 c, .slice (some ⟨l, 0, none⟩) 1 1, .agg #[.int .i64 0, .slice (some ⟨q, 0, none⟩) 1 d]] w fun e w' => ∃ a n, e = .returned (.tuple #[.agg #[.int .i64 0, .slice a 0 n], .int .i64 0]) ∧ KB F0 w w' := by
  obtain ⟨w0, rfl⟩ : ∃ w0, w0 = w := ⟨_, rfl⟩
  obtain ⟨hk, hb1, hb2⟩ := new2 w0 #[.int .i64 0, .slice (some ⟨q, 0, none⟩) 1 d] #[.int .i64 0, .slice none 0 0] 26 26
  have WK := Lib.hid (walk_star l g c d q _ (h.kb hk) (hq.kb hk))
  have CU := Lib.hid (fun (W : World) (hk : KB F0 w0 W) => cut_any ⟨0, [-1]⟩ 0 (Nat.zero_le _) (some ⟨q, 0, none⟩) d W ((hq.kb hk).pl hd1))
  unfold plV at CU
  simp only [List.length_nil, List.length_cons, Nat.zero_add, List.take_zero, Int.natCast_zero] at CU
  unfold tyI at WK
  have HB := Lib.hid (And.intro hk (And.intro hb1 hb2))
  clear hk hb1 hb2 h hq
  go_enter Tryz.func30, Tryz.ntmps30
  go_wp2_with fail
  refine WK.out.mono ?_
  rintro e w1 ⟨v, rfl, ho, k1⟩
  obtain ⟨va, vc, rfl, hvc, -, hcl, -⟩ := own_shape ho
  obtain ⟨gg, rfl, -, hgv⟩ := hcl 0 (by omega)
  have k1a := k1.alloc (.cells #[.int .u8 1, .bool false, .int .i64 0, .int .i64 0, .slice none 0 0] 36)
  have hgv := ((KB.refl F0 w1).alloc (.cells #[.int .u8 1, .bool false, .int .i64 0, .int .i64 0, .slice none 0 0] 36)).cell (p := ⟨gg, 0, none⟩) (fun x => x) hgv
  have hb1 := k1a.heap (fun x => x) HB.out.2.1
  have hb2 := k1a.heap (fun x => x) HB.out.2.2
  have H1 := Lib.hid (And.intro (HB.out.1.trans k1a) (And.intro hb1 (And.intro hb2 hgv)))
  clear k1 k1a hb1 hb2 hgv ho hcl
  go_wp2_with fail
  refine (indexInt_two gg vc _ H1.out.2.2.2).mono ?_
  rintro e w2 ⟨rfl, rfl⟩
  have x0 : (w1.alloc (.cells #[.int .u8 1, .bool false, .int .i64 0, .int .i64 0, .slice none 0 0] 36)).cell? ⟨w0.heap.size, 0, none⟩ = some (.int .i64 0) := blk_cell H1.out.2.1 0
  have x1 : (w1.alloc (.cells #[.int .u8 1, .bool false, .int .i64 0, .int .i64 0, .slice none 0 0] 36)).cell? ⟨w0.heap.size, 1, none⟩ = some (.slice (some ⟨q, 0, none⟩) 1 d) := blk_cell H1.out.2.1 1
  go_wp2_with fail
  refine (CU.out _ H1.out.1).mono ?_
  rintro e w3 ⟨v, rfl, ho, k3⟩
  obtain ⟨a, n, rfl⟩ := own_lenP ho
  have hb := k3.heap (fun x => x) H1.out.2.2.1
  have y0 : w3.cell? ⟨w0.heap.size + 1, 0, none⟩ = some (.int .i64 0) := blk_cell hb 0
  have y1 : w3.cell? ⟨w0.heap.size + 1, 1, none⟩ = some (.slice none 0 0) := blk_cell hb 1
  have f0 := blk_frozen hb 0
  have f1 := blk_frozen hb 1
  have H3 := Lib.hid (And.intro (H1.out.1.trans k3) hb)
  clear x0 x1 k3 hb ho
  go_wp2_with fail
  refine ret_pl2 (X := w0.heap.size + 1) rfl rfl rfl (setCell_blk (i := 1) (setCell_blk (i := 0) H3.out.2 (.int .i64 0)) (.slice a 0 n)) rfl ⟨_, _, rfl, ?_⟩
  exact kb_new (kb_new H3.out.1 (Nat.le_succ _) 0 _) (Nat.le_succ _) 1 _
end Go.Proofs.YtpigppghcghpbaaGreatDoor

/- place.Read, plain, part by part. strconv.Atoi; place.Read. place.May, Type, Within, Held of awake's places. place.Within, Held of awake's places. -/
import Derived.Test.YtpigppghcghpbaaGreatDoorPlC
import Derived.Test.YtpigppghcghpbaaGreatDoorPlR
import Derived.Lib.SplitLaws
import Derived.Test.YtpigppghcghpbaaGreatDoorPlN
namespace Go.Proofs.YtpigppghcghpbaaGreatDoor

def rdK (pl : List (List UInt8)) : Nat → Option Pl
  | 0 => some ⟨0, []⟩
  | k + 1 => (rdK pl k).bind fun p => if k = 0 then (numL (pl.getD 0 [])).map fun (v : Nat) => (⟨(v : Int), []⟩ : Pl) else (stepL (pl.getD k [])).map fun x => ⟨p.loc, p.path ++ [x]⟩
theorem rdK_none {pl : List (List UInt8)} {k : Nat} (h : rdK pl k = none) : ∀ m, k ≤ m → rdK pl m = none := by
  intro m
  induction m with
  | zero => intro hm; obtain rfl : k = 0 := by omega
            exact h
  | succ m ih =>
    intro hm
    by_cases hk : k = m + 1
    · rw [← hk]; exact h
    · rw [rdK, ih (by omega)]; rfl
theorem stepsL_snoc : ∀ (ps : List (List UInt8)) (p : List UInt8), stepsL (ps ++ [p]) = (stepsL ps).bind fun ks => (stepL p).map fun k => ks ++ [k] := by
  intro ps p
  induction ps with
  | nil => cases h : stepL p <;> simp [stepsL, h]
  | cons q ps ih =>
    rw [List.cons_append, stepsL, stepsL, ih]
    cases stepL q <;> cases stepsL ps <;> cases stepL p <;> rfl
theorem rdK_steps (a : List UInt8) (ps : List (List UInt8)) : ∀ j, j ≤ ps.length → rdK (a :: ps) (j + 1) = (numL a).bind fun v => (stepsL (ps.take j)).map fun ks => ⟨(v : Int), ks⟩ := by
  intro j
  induction j with
  | zero => intro _; rw [rdK, rdK]; cases h : numL a <;> simp [h, stepsL]
  | succ j ih =>
    intro hj
    rw [rdK, ih (by omega)]
    simp only [show (j + 1 = 0) = False from by simp, if_false]
    have e : ps.take (j + 1) = ps.take j ++ [(a :: ps).getD (j + 1) []] := by
      rw [List.take_add_one, List.getElem?_eq_getElem (by omega)]
      simp [List.getD_eq_getElem?_getD, List.getElem?_eq_getElem (show j < ps.length by omega)]
    rw [e, stepsL_snoc]
    cases numL a <;> cases stepsL (ps.take j) <;> cases stepL ((a :: ps).getD (j + 1) []) <;> rfl
theorem rdL_rdK (r : List UInt8) : rdL (95 :: r) = if 9 < (splL r).length then none else rdK (splL r) (splL r).length := by
  rw [rdL]
  obtain ⟨a, ps, h, -⟩ := splL_parts r
  rw [h]
  simp only [List.length_cons]
  rw [rdK_steps a ps ps.length (Nat.le_refl _), List.take_length]
  by_cases h8 : 8 < ps.length
  · rw [if_pos h8, if_pos (by omega)]
  · rw [if_neg h8, if_neg (by omega)]
theorem rdL_no {l : List UInt8} (h : ∀ r, l ≠ 95 :: r) : rdL l = none := by
  unfold rdL
  split
  · rename_i r; exact absurd rfl (h r)
  · rfl
def rdP (o : Option Pl) : Pl := o.getD ⟨0, []⟩
def rdE (o : Option Pl) : Int := if o.isSome then 0 else 90
end Go.Proofs.YtpigppghcghpbaaGreatDoor

namespace Go.Proofs.YtpigppghcghpbaaGreatDoor
open Go.RowKit

theorem kb_bytes {w w' : World} (h : w' = w ∨ ∃ t, w' = Lib.bytesWorld w 5 t) : KB F0 w w' := by
  rcases h with rfl | ⟨t, rfl⟩
  · exact KB.refl _ _
  · exact ⟨rfl, rfl, rfl, by rw [Lib.bytesWorld_size]; omega, fun k hk _ => Lib.bytesWorld_at_old w _ t k hk⟩
/-- What Atoi answers: a number and no error, or an error. -/
def AtoiOut (l : List UInt8) (w' : World) (e : Ending) : Prop :=
  (∃ v, Lib.atoiAll l = .ok v ∧ e = .returned (.tuple #[.int .i64 v, .nilIface])) ∨ ((∀ v, Lib.atoiAll l ≠ .ok v) ∧ ∃ n N, e = .returned (.tuple #[.int .i64 n, .iface 131 (.pointer (some ⟨N, 0, none⟩))]))
theorem atoi_any (s : ByteArray) (hs : s.size ≤ 1000000000) (w : World) (hT : TabP w) : Calls Tryz.prog 52 #[.string s] w fun e w' => AtoiOut s.data.toList w' e ∧ KB F0 w w' := by
  rcases ha : Lib.atoiAll s.data.toList with v | _ | _
  · refine (Tryz.strconv_Atoi_ok s (by omega) v ha w).mono ?_
    rintro e w' ⟨rfl, hk⟩
    exact ⟨Or.inl ⟨v, ha, rfl⟩, kb_bytes hk⟩
  · obtain ⟨tp, p, hv⟩ := hT.syn
    refine (Any.strconv_Atoi_syntax_var Tryz.laysC172 s (by omega) ha tp p w hv).mono ?_
    rintro e w' ⟨N, rfl, -, -, hk⟩
    exact ⟨Or.inr ⟨fun v h => (by rw [ha] at h; cases h), _, N, rfl⟩, KB.of_below hk⟩
  · obtain ⟨tp, p, hv⟩ := hT.rng
    refine (Tryz.strconv_Atoi_range_var s (by omega) ha tp p w hv).mono ?_
    rintro e w' ⟨N, rfl, -, -, hk⟩
    exact ⟨Or.inr ⟨fun v h => (by rw [ha] at h; cases h), _, N, rfl⟩, KB.of_below hk⟩
theorem err_ne (N : Nat) (w : World) : (binOp BinOp.neq 84 (.iface 131 (.pointer (some ⟨N, 0, none⟩))) .nilIface).run Tryz.prog w = .ok (.bool true) w := by kernel_rfl
theorem err_eq (w : World) : (binOp BinOp.neq 84 .nilIface .nilIface).run Tryz.prog w = .ok (.bool false) w := by kernel_rfl
/-- Parts lie in a block. -/
def PartsAt (w : World) (g : Nat) (ps : List ByteArray) : Prop := w.heap[g]? = some (.cells (ps.map Value.string).toArray 9 (0, 0))
theorem PartsAt.kb {w w' : World} {g : Nat} {ps : List ByteArray} (h : PartsAt w g ps) (hk : KB F0 w w') : PartsAt w' g ps := hk.heap (fun x => x) h
theorem PartsAt.cell {w : World} {g : Nat} {ps : List ByteArray} (h : PartsAt w g ps) {k : Nat} (hk : k < ps.length) : w.cell? ⟨g, 0 + k, none⟩ = some (.string (ps.getD k ByteArray.empty)) := by
  rw [Nat.zero_add, blk_cell h k]
  simp [List.getD_eq_getElem?_getD, List.getElem?_eq_getElem hk]
theorem split_any (s : ByteArray) (hs : s.size ≤ 1000000000) (w : World) (hT : TabP w) :
    Calls Tryz.prog 51 #[.string s, .string dotB] w fun e w' => ∃ g ps, e = .returned (.slice (some ⟨g, 0, none⟩) ps.length ps.length) ∧ ps.map (·.data.toList) = splL s.data.toList ∧ PartsAt w' g ps ∧ KB F0 w w' := by
  obtain ⟨m, hm⟩ := hT.len
  refine (Tryz.strings_Split s dotB m w (by omega) hm (by decide)).mono ?_
  rintro e w' ⟨rfl, rfl⟩
  refine ⟨w.heap.size, Lib.splitB dotB 0 (Lib.countB s dotB) s, ?_, split_dot s, alloc_new _ _, (KB.refl _ _).alloc _⟩
  rw [Lib.splitB_all dotB (by decide) 0 _ s rfl]
/-- One part's number: what Atoi and Itoa say. -/
theorem num_ok {l : List UInt8} {v : Int} (h : Lib.atoiAll l = .ok v) : numL l = if 0 ≤ v ∧ Lib.itoa v = l then some v.toNat else none := by unfold numL; rw [h]
theorem num_no {l : List UInt8} (h : ∀ v, Lib.atoiAll l ≠ .ok v) : numL l = none := by
  unfold numL
  rcases ha : Lib.atoiAll l with v | _ | _
  · exact absurd ha (h v)
  · rfl
  · rfl
end Go.Proofs.YtpigppghcghpbaaGreatDoor

namespace Go.Proofs.YtpigppghcghpbaaGreatDoor
open Go.RowKit

theorem StarAt.kb {w w' : World} {q : Nat} (h : StarAt w q) (hk : KB F0 w w') : StarAt w' q := hk.cell (p := ⟨q, 0, none⟩) (fun x => x) h
theorem StarAt.pl {w : World} {q c : Nat} (h : StarAt w q) (hc : 1 ≤ c) : PlAt w ⟨0, [-1]⟩ (some ⟨q, 0, none⟩) c := ⟨fun k hk => by
  obtain rfl : k = 0 := by simp at hk; omega
  exact ⟨q, 0, rfl, h⟩, hc, by decide⟩
theorem bare_pl (w : World) (c : Nat) : PlAt w ⟨0, []⟩ none c := ⟨fun k hk => by simp at hk, Nat.zero_le _, by decide⟩
set_option maxRecDepth 100000 in
set_option maxHeartbeats 8000000 in
theorem pmay_bare (l g c d : Nat) (w : World) (h : RefTysAt w l g) :
    Calls Tryz.prog 29 #[.slice none 0 c, .slice (some ⟨l, 0, none⟩) 1 1, .agg #[.int .i64 0, .slice none 0 d]] w fun e w' => e = .returned (.bool true) ∧ KB F0 w w' := by
  obtain ⟨w0, rfl⟩ : ∃ w0, w0 = w := ⟨_, rfl⟩
  have ka := (KB.refl F0 w0).alloc (.cells #[.int .i64 0, .slice none 0 d] 26)
  have HA := Lib.hid ka
  have WK := Lib.hid (walk_bare l g c d _ (h.kb ka))
  unfold tyR at WK
  clear ka h
  go_enter Tryz.func29, Tryz.ntmps29
  go_wp2_with fail
  refine WK.out.mono ?_
  rintro e w1 ⟨rfl, k1⟩
  have HK := Lib.hid (HA.out.trans k1)
  clear k1
  go_wp2_with fail
  go_ret
  exact ⟨rfl, HK.out.alloc _⟩
set_option maxRecDepth 100000 in
set_option maxHeartbeats 8000000 in
theorem pmay_star (l g c d q : Nat) (w : World) (h : RefTysAt w l g) (hq : StarAt w q) :
    Calls Tryz.prog 29 #[.slice none 0 c, .slice (some ⟨l, 0, none⟩) 1 1, .agg #[.int .i64 0, .slice (some ⟨q, 0, none⟩) 1 d]] w fun e w' => e = .returned (.bool true) ∧ KB F0 w w' := by
  obtain ⟨w0, rfl⟩ : ∃ w0, w0 = w := ⟨_, rfl⟩
  have ka := (KB.refl F0 w0).alloc (.cells #[.int .i64 0, .slice (some ⟨q, 0, none⟩) 1 d] 26)
  have HA := Lib.hid ka
  have WK := Lib.hid (walk_star l g c d q _ (h.kb ka) (hq.kb ka))
  unfold tyI at WK
  clear ka h hq
  go_enter Tryz.func29, Tryz.ntmps29
  go_wp2_with fail
  refine WK.out.mono ?_
  rintro e w1 ⟨v, rfl, ho, k1⟩
  obtain ⟨va, vc, rfl⟩ := own_lenP ho
  have HK := Lib.hid (HA.out.trans k1)
  clear k1 ho
  go_wp2_with fail
  go_ret
  exact ⟨rfl, HK.out.alloc _⟩
set_option maxRecDepth 100000 in
set_option maxHeartbeats 8000000 in
theorem ptype_star (l g c d q : Nat) (w : World) (h : RefTysAt w l g) (hq : StarAt w q) :
    Calls Tryz.prog 31 #[.slice none 0 c, .slice (some ⟨l, 0, none⟩) 1 1, .agg #[.int .i64 0, .slice (some ⟨q, 0, none⟩) 1 d]] w fun e w' => e = .returned (.tuple #[tyI, .int .i64 0]) ∧ KB F0 w w' := by
  obtain ⟨w0, rfl⟩ : ∃ w0, w0 = w := ⟨_, rfl⟩
  obtain ⟨hk, -, hb2⟩ := new2 w0 #[.int .i64 0, .slice (some ⟨q, 0, none⟩) 1 d] ty0c 26 36
  have WK := Lib.hid (walk_star l g c d q _ (h.kb hk) (hq.kb hk))
  have OI := Lib.hid (fun w => Own_int w)
  unfold tyI at WK OI ⊢
  unfold ty0c at hk hb2 WK
  have HB := Lib.hid (And.intro hk hb2)
  clear hk hb2 h hq
  go_enter Tryz.func31, Tryz.ntmps31
  go_wp2_with fail
  refine WK.out.mono ?_
  rintro e w1 ⟨v, rfl, ho, k1⟩
  obtain ⟨va, vc, rfl⟩ := own_lenP ho
  have H1 := Lib.hid (And.intro (HB.out.1.trans k1) (k1.heap (fun x => x) HB.out.2))
  clear k1 ho
  go_wp2_with fail
  refine (OI.out _).mono ?_
  rintro e w2 ⟨rfl, k2⟩
  have k12 := ((KB.refl F0 w1).alloc (.cells #[.int .u8 1, .bool false, .int .i64 0, .int .i64 0, .slice none 0 0] 36)).trans k2
  have hb := k12.heap (fun x => x) H1.out.2
  have d0 : w2.cell? ⟨w0.heap.size + 1, 0, none⟩ = some (.int .u8 0) := blk_cell hb 0
  have d1 : w2.cell? ⟨w0.heap.size + 1, 1, none⟩ = some (.bool false) := blk_cell hb 1
  have d2 : w2.cell? ⟨w0.heap.size + 1, 2, none⟩ = some (.int .i64 0) := blk_cell hb 2
  have d3 : w2.cell? ⟨w0.heap.size + 1, 3, none⟩ = some (.int .i64 0) := blk_cell hb 3
  have d4 : w2.cell? ⟨w0.heap.size + 1, 4, none⟩ = some (.slice none 0 0) := blk_cell hb 4
  have f0 := blk_frozen hb 0
  have f1 := blk_frozen hb 1
  have f2 := blk_frozen hb 2
  have f3 := blk_frozen hb 3
  have f4 := blk_frozen hb 4
  have H2 := Lib.hid (And.intro (H1.out.1.trans k12) hb)
  clear k2 k12 hb
  go_wp2_with fail
  refine ret_ty2 (X := w0.heap.size + 1) rfl rfl rfl (set5_blk H2.out.2 (.int .u8 1) (.bool false) (.int .i64 0) (.int .i64 0) (.slice none 0 0)) rfl ⟨rfl, ?_⟩
  exact set5_new H2.out.1 (Nat.le_succ _) _ _ _ _ _
set_option maxRecDepth 100000 in
set_option maxHeartbeats 8000000 in
theorem limit_any (d m : Int) (h : d = 2 ∧ m = 1 ∨ d = 3 ∧ m = 2) (w : World) : Calls Tryz.prog 37 #[.int .u8 d] w fun e w' => e = .returned (.int .i64 m) ∧ w' = w := by
  rcases h with ⟨rfl, rfl⟩ | ⟨rfl, rfl⟩
  · go_enter Tryz.func37, Tryz.ntmps37
    go_wp2_with fail
    go_ret
    exact ⟨rfl, rfl⟩
  · go_enter Tryz.func37, Tryz.ntmps37
    go_wp2_with fail
    go_ret
    exact ⟨rfl, rfl⟩
end Go.Proofs.YtpigppghcghpbaaGreatDoor

namespace Go.Proofs.YtpigppghcghpbaaGreatDoor
open Go.RowKit

set_option maxRecDepth 100000 in
set_option maxHeartbeats 8000000 in
theorem within_aw (dd m : Int) (hd : dd = 2 ∧ m = 1 ∨ dd = 3 ∧ m = 2) (l g c d q : Nat) (hd1 : 1 ≤ d) (w : World) (h : RefTysAt w l g) (hq : StarAt w q) :
    Calls Tryz.prog 12 #[.slice none 0 c, .slice (some ⟨l, 0, none⟩) 1 1, .agg #[.int .i64 0, .slice none 0 0], .agg #[.int .i64 0, .slice (some ⟨q, 0, none⟩) 1 d], .int .u8 dd] w fun e w' => e = .returned (.tuple #[.bool (decide (dd = 3)), .int .i64 0]) ∧ KB F0 w w' := by
  obtain ⟨w0, rfl⟩ : ∃ w0, w0 = w := ⟨_, rfl⟩
  obtain ⟨hk, hb1, hb2⟩ := new2 w0 #[.int .i64 0, .slice none 0 0] #[.int .i64 0, .slice (some ⟨q, 0, none⟩) 1 d] 26 26
  have WK := Lib.hid (walk_star l g c d q _ (h.kb hk) (hq.kb hk))
  have PM := Lib.hid (fun (W : World) (hk : KB F0 w0 W) => pmay_bare l g c 0 W (h.kb hk))
  have PP := Lib.hid (fun (W : World) (hk : KB F0 w0 W) => prefix_any ⟨0, []⟩ ⟨0, [-1]⟩ none (some ⟨q, 0, none⟩) 0 d W (bare_pl W 0) ((hq.kb hk).pl hd1))
  rw [show preB ⟨0, []⟩ ⟨0, [-1]⟩ = true from rfl] at PP
  have LM := Lib.hid (fun (W : World) => limit_any dd m hd W)
  unfold tyI at WK
  unfold plV at PP
  simp only [List.length_nil, List.length_cons, Nat.zero_add] at PP
  have HB := Lib.hid (And.intro hk (And.intro hb1 hb2))
  have Hdd := Lib.hid hd
  have t1 : decide (dd < 1) = false := decide_eq_false (by omega)
  have t2 : decide (3 < dd) = false := decide_eq_false (by omega)
  have t3 : decide (m < 0) = false := decide_eq_false (by omega)
  clear hk hb1 hb2 h hq hd
  go_enter Tryz.func12, Tryz.ntmps12
  go_wp2_with fail
  refine WK.out.mono ?_
  rintro e w1 ⟨v, rfl, ho, k1⟩
  obtain ⟨va, vc, rfl, hvc, -, hcl, -⟩ := own_shape ho
  obtain ⟨gg, rfl, -, hgv⟩ := hcl 0 (by omega)
  have k1a := k1.alloc (.cells #[.int .u8 1, .bool false, .int .i64 0, .int .i64 0, .slice none 0 0] 36)
  have hgv := ((KB.refl F0 w1).alloc (.cells #[.int .u8 1, .bool false, .int .i64 0, .int .i64 0, .slice none 0 0] 36)).cell (p := ⟨gg, 0, none⟩) (fun x => x) hgv
  have hb1 := k1a.heap (fun x => x) HB.out.2.1
  have hb2 := k1a.heap (fun x => x) HB.out.2.2
  have H1 := Lib.hid (And.intro (HB.out.1.trans k1a) (And.intro hb1 (And.intro hb2 hgv)))
  have x0 : (w1.alloc (.cells #[.int .u8 1, .bool false, .int .i64 0, .int .i64 0, .slice none 0 0] 36)).cell? ⟨w0.heap.size, 0, none⟩ = some (.int .i64 0) := blk_cell hb1 0
  have x1 : (w1.alloc (.cells #[.int .u8 1, .bool false, .int .i64 0, .int .i64 0, .slice none 0 0] 36)).cell? ⟨w0.heap.size, 1, none⟩ = some (.slice none 0 0) := blk_cell hb1 1
  clear k1 k1a hb1 hb2 hgv ho hcl
  go_wp2_with fail
  refine (PM.out _ H1.out.1).mono ?_
  rintro e w2 ⟨rfl, k2⟩
  have H2 := Lib.hid (And.intro (H1.out.1.trans k2) (And.intro (k2.heap (fun x => x) H1.out.2.1) (And.intro (k2.heap (fun x => x) H1.out.2.2.1) (k2.cell (p := ⟨gg, 0, none⟩) (fun x => x) H1.out.2.2.2))))
  clear k2 x0 x1
  have x0 : w2.cell? ⟨w0.heap.size, 0, none⟩ = some (.int .i64 0) := blk_cell H2.out.2.1 0
  have x1 : w2.cell? ⟨w0.heap.size, 1, none⟩ = some (.slice none 0 0) := blk_cell H2.out.2.1 1
  have y0 : w2.cell? ⟨w0.heap.size + 1, 0, none⟩ = some (.int .i64 0) := blk_cell H2.out.2.2.1 0
  have y1 : w2.cell? ⟨w0.heap.size + 1, 1, none⟩ = some (.slice (some ⟨q, 0, none⟩) 1 d) := blk_cell H2.out.2.2.1 1
  go_wp2_with fail
  refine (PP.out _ H2.out.1).mono ?_
  rintro e w3 ⟨rfl, k3⟩
  have H3 := Lib.hid (And.intro (H2.out.1.trans k3) (k3.cell (p := ⟨gg, 0, none⟩) (fun x => x) H2.out.2.2.2))
  have x1' : w3.cell? ⟨w0.heap.size, 1, none⟩ = some (.slice none 0 0) := k3.cell (p := ⟨w0.heap.size, 1, none⟩) (fun x => x) x1
  clear k3 x0 x1 y0 y1
  go_wp2_with fail
  have c0 := H3.out.2
  clear x1'
  go_loopw [52] (fun kv wr => (kv = .int .i64 0 ∨ (kv = .int .i64 1 ∧ Hid (dd = 3))) ∧ wr = w3) (fun kv _ => 1 - (intOf kv).toNat)
  case atStart => exact ⟨Or.inl rfl, rfl⟩
  case round =>
    obtain ⟨rfl | ⟨rfl, h3⟩, rfl⟩ := hrel
    · rcases Hdd.out with ⟨g1, g2⟩ | ⟨g1, g2⟩
      · have HE : Hid (decide (dd = 3) = false) := Lib.hid (decide_eq_false (by omega))
        have t4 : decide (m < 2) = true := decide_eq_true (by omega)
        clear g1 g2
        go_wp2_with fail
        refine (LM.out _).mono ?_
        rintro e w4 ⟨rfl, rfl⟩
        go_wp2_with fail
        go_ret2
        exact ⟨ret_eq (by rw [HE.out]; rfl), H3.out.1⟩
      · have t4 : decide (m < 2) = false := decide_eq_false (by omega)
        have HD := Lib.hid g1
        clear g1 g2
        go_wp2_with fail
        refine (LM.out _).mono ?_
        rintro e w4 ⟨rfl, rfl⟩
        go_wp2_with fail
        exact ⟨⟨Or.inr ⟨rfl, HD⟩, trivial⟩, by simp [intOf]⟩
    · have HE : Hid (decide (dd = 3) = true) := Lib.hid (decide_eq_true h3.out)
      clear h3
      go_wp2_with fail
      go_ret2
      exact ⟨ret_eq (by rw [HE.out]; rfl), H3.out.1⟩
set_option maxRecDepth 100000 in
set_option maxHeartbeats 8000000 in
theorem held1_two (w : World) : Calls Tryz.prog 55 #[.int .i64 2] w fun e w' => e = .returned (.bool true) ∧ w' = w := by
  go_enter Tryz.func55, Tryz.ntmps55
  go_wp2_with fail
  go_ret
  exact ⟨rfl, rfl⟩
set_option maxRecDepth 100000 in
set_option maxHeartbeats 8000000 in
theorem indexInt_two (gg vc : Nat) (w : World) (h : w.cell? ⟨gg, 0, none⟩ = some (.int .i64 2)) :
    Calls Tryz.prog 54 #[.slice (some ⟨gg, 0, none⟩) 1 vc, .func (.func 55) #[] #[]] w fun e w' => e = .returned (.int .i64 0) ∧ w' = w := by
  obtain ⟨w0, rfl⟩ : ∃ w0, w0 = w := ⟨_, rfl⟩
  go_enter Tryz.func54, Tryz.ntmps54
  go_wp2_with fail
  go_loopw [8] (fun kv wr => kv = .int .i64 0 ∧ wr = w0) (fun _ _ => 0)
  case atStart => exact ⟨rfl, rfl⟩
  case round =>
    obtain ⟨rfl, rfl⟩ := hrel
    go_wp2_with fail
    refine (held1_two _).mono ?_
    rintro e w1 ⟨rfl, rfl⟩
    go_wp2_with fail
    go_ret
    exact ⟨rfl, rfl⟩
theorem ret_pl2 {fn : Func} {R : Ending → World → Prop} {a : Act} {w : World} {p q X : Nat} {x : Int} {v u : Value} (h : fn.results = #[.cell p 26, .tmp q]) (hp : a.tmps.getD p undef = .pointer (some ⟨X, 0, none⟩)) (hq : a.tmps.getD q undef = u)
    (hc : w.heap[X]? = some (.cells #[.int .i64 x, v] 26 (0, 0))) (hd : a.defers = []) (hR : R (.returned (.tuple #[.agg #[.int .i64 x, v], u])) w) : bodyPost Tryz.prog fn R .ret a w := by
  refine bodyPost_ret (v := .tuple #[.agg #[.int .i64 x, v], u]) ?_ hd hR
  have hp' : a.tmps[p]?.getD undef = .pointer (some ⟨X, 0, none⟩) := by simpa using hp
  have hq' : a.tmps[q]?.getD undef = u := by simpa using hq
  have c0 : w.cell? ⟨X, 0, none⟩ = some (.int .i64 x) := blk_cell hc 0
  have c1 : w.cell? ⟨X, 1, none⟩ = some v := blk_cell hc 1
  simp only [results, h]
  go_simp
set_option maxRecDepth 100000 in
set_option maxHeartbeats 8000000 in
theorem held_aw (l g c d q : Nat) (hd1 : 1 ≤ d) (w : World) (h : RefTysAt w l g) (hq : StarAt w q) :
    Calls Tryz.prog 30 #[.slice none 0 c, .slice (some ⟨l, 0, none⟩) 1 1, .agg #[.int .i64 0, .slice (some ⟨q, 0, none⟩) 1 d]] w fun e w' => ∃ a n, e = .returned (.tuple #[.agg #[.int .i64 0, .slice a 0 n], .int .i64 0]) ∧ KB F0 w w' := by
  obtain ⟨w0, rfl⟩ : ∃ w0, w0 = w := ⟨_, rfl⟩
  obtain ⟨hk, hb1, hb2⟩ := new2 w0 #[.int .i64 0, .slice (some ⟨q, 0, none⟩) 1 d] #[.int .i64 0, .slice none 0 0] 26 26
  have WK := Lib.hid (walk_star l g c d q _ (h.kb hk) (hq.kb hk))
  have CU := Lib.hid (fun (W : World) (hk : KB F0 w0 W) => cut_any ⟨0, [-1]⟩ 0 (Nat.zero_le _) (some ⟨q, 0, none⟩) d W ((hq.kb hk).pl hd1))
  unfold plV at CU
  simp only [List.length_nil, List.length_cons, Nat.zero_add, List.take_zero, Int.natCast_zero] at CU
  unfold tyI at WK
  have HB := Lib.hid (And.intro hk (And.intro hb1 hb2))
  clear hk hb1 hb2 h hq
  go_enter Tryz.func30, Tryz.ntmps30
  go_wp2_with fail
  refine WK.out.mono ?_
  rintro e w1 ⟨v, rfl, ho, k1⟩
  obtain ⟨va, vc, rfl, hvc, -, hcl, -⟩ := own_shape ho
  obtain ⟨gg, rfl, -, hgv⟩ := hcl 0 (by omega)
  have k1a := k1.alloc (.cells #[.int .u8 1, .bool false, .int .i64 0, .int .i64 0, .slice none 0 0] 36)
  have hgv := ((KB.refl F0 w1).alloc (.cells #[.int .u8 1, .bool false, .int .i64 0, .int .i64 0, .slice none 0 0] 36)).cell (p := ⟨gg, 0, none⟩) (fun x => x) hgv
  have hb1 := k1a.heap (fun x => x) HB.out.2.1
  have hb2 := k1a.heap (fun x => x) HB.out.2.2
  have H1 := Lib.hid (And.intro (HB.out.1.trans k1a) (And.intro hb1 (And.intro hb2 hgv)))
  clear k1 k1a hb1 hb2 hgv ho hcl
  go_wp2_with fail
  refine (indexInt_two gg vc _ H1.out.2.2.2).mono ?_
  rintro e w2 ⟨rfl, rfl⟩
  have x0 : (w1.alloc (.cells #[.int .u8 1, .bool false, .int .i64 0, .int .i64 0, .slice none 0 0] 36)).cell? ⟨w0.heap.size, 0, none⟩ = some (.int .i64 0) := blk_cell H1.out.2.1 0
  have x1 : (w1.alloc (.cells #[.int .u8 1, .bool false, .int .i64 0, .int .i64 0, .slice none 0 0] 36)).cell? ⟨w0.heap.size, 1, none⟩ = some (.slice (some ⟨q, 0, none⟩) 1 d) := blk_cell H1.out.2.1 1
  go_wp2_with fail
  refine (CU.out _ H1.out.1).mono ?_
  rintro e w3 ⟨v, rfl, ho, k3⟩
  obtain ⟨a, n, rfl⟩ := own_lenP ho
  have hb := k3.heap (fun x => x) H1.out.2.2.1
  have y0 : w3.cell? ⟨w0.heap.size + 1, 0, none⟩ = some (.int .i64 0) := blk_cell hb 0
  have y1 : w3.cell? ⟨w0.heap.size + 1, 1, none⟩ = some (.slice none 0 0) := blk_cell hb 1
  have f0 := blk_frozen hb 0
  have f1 := blk_frozen hb 1
  have H3 := Lib.hid (And.intro (H1.out.1.trans k3) hb)
  clear x0 x1 k3 hb ho
  go_wp2_with fail
  refine ret_pl2 (X := w0.heap.size + 1) rfl rfl rfl (setCell_blk (i := 1) (setCell_blk (i := 0) H3.out.2 (.int .i64 0)) (.slice a 0 n)) rfl ⟨_, _, rfl, ?_⟩
  exact kb_new (kb_new H3.out.1 (Nat.le_succ _) 0 _) (Nat.le_succ _) 1 _
end Go.Proofs.YtpigppghcghpbaaGreatDoor

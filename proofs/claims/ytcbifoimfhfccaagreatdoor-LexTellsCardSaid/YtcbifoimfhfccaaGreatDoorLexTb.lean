/- loanwordref02.Ends, Text, May, apart, walked. -/
import Derived.Test.YtcbifoimfhfccaaGreatDoorLexTa
import Derived.Test.YtcbifoimfhfccaaGreatDoorLexBg
namespace Go.Proofs.YtcbifoimfhfccaaGreatDoor
open Go.RowKit

/-- loanwordref02.Lex, its tokens at hand. -/
theorem rlexT_any (s : ByteArray) (hs : s.size ≤ 9223372036854775807) (w : World) :
    Calls Tryz.prog 20 #[.string s] w fun e w' => ∃ a c, e = .returned (.tuple #[.slice a (lexS s).1.length c, .int .i64 ((lexS s).2.1 : Nat), .int .i64 ((lexS s).2.2 : Nat)]) ∧ (lexS s).1.length ≤ c ∧ ToksAt w' a (lexS s).1 ∧ KB F0 w w' := by
  refine (rlex_any s hs w).mono ?_
  rintro e w' ⟨v, rfl, ho, hk⟩
  obtain ⟨a, c, rfl, hc, ht⟩ := ho.toks
  exact ⟨a, c, rfl, hc, ht, hk⟩
theorem lexS_pos {s : ByteArray} {x : Tk} {l : List Tk} (h : (lexS s).1 = x :: l) : 0 < s.size := by
  have := (lexS_len s).2
  rw [h, List.length_cons] at this
  omega
set_option maxRecDepth 100000 in
set_option maxHeartbeats 8000000 in
theorem rends_any (s : ByteArray) (x : Tk) (h0 : (lexS s).2.2 = 0) (h1 : (lexS s).1 = [x]) (hx : x.at_ = 0) (w : World) :
    Calls Tryz.prog 21 #[.string s] w fun e w' => e = .returned (.tuple #[.int .i64 ((oneS s 0).2.1 : Nat), .bool true]) ∧ KB F0 w w' := by
  obtain ⟨w0, rfl⟩ : ∃ w0, w0 = w := ⟨_, rfl⟩
  have hz := (lexS_ok h0).1
  have hpos := lexS_pos h1
  have RL : Hid (Calls Tryz.prog 20 #[.string s] w0 fun e w' => ∃ b off c p, e = .returned (.tuple #[.slice (some ⟨b, off, none⟩) 1 c, .int .i64 p, .int .i64 0]) ∧ w'.cell? ⟨b, off + 1, none⟩ = some (.int .i64 0) ∧ KB F0 w0 w') := Lib.hid (by
    refine (rlexT_any s (by omega) w0).mono ?_
    rintro e w' ⟨a, c, rfl, -, ht, hk⟩
    rw [h1] at ht
    rw [h1, h0]
    obtain ⟨b, off, rfl, hx1⟩ := ht 0 (by simp)
    refine ⟨b, off, c, _, rfl, ?_, hk⟩
    have := hx1.at_
    simp only [List.getD_cons_zero, hx] at this
    simpa using this)
  have RO := Lib.hid (fun W => rone_any s 0 hpos hz W)
  generalize oneS s 0 = O at RO ⊢
  obtain ⟨O1, O2, O3⟩ := O
  simp only at RO ⊢
  clear h0 h1 hx hz hpos
  go_enter Tryz.func21, Tryz.ntmps21
  go_wp2_with fail
  refine RL.out.mono ?_
  rintro e w1 ⟨b, off, c, p, rfl, c1, k1⟩
  have K1 := Lib.hid k1
  clear k1 RL
  go_wp2_with fail
  refine (RO.out _).mono ?_
  rintro e w2 ⟨t, rfl, -, k2⟩
  rw [show tkC t = #[.int .u8 (t.k : Nat), .int .i64 t.at_, .int .i64 t.n, .string t.s] from rfl]
  have K2 := Lib.hid (K1.out.trans k2)
  clear k2 RO c1
  go_wp2_with fail
  go_ret2
  exact ⟨rfl, by first | exact K2.out | exact K2.out.alloc _⟩

/-- What loanwordref02.Text's tests say of a token, one behind another. -/
def RT (u : ByteArray) (l : List Tk) (E Z : Nat) (k : Nat) (at_ n : Int) (s : ByteArray) (r : Bool) : Prop :=
  (at_ < 0 → r = false) ∧ (E ≠ 0 → r = false) ∧ (l.length ≠ 1 → r = false) ∧ ∀ x, l = [x] → E = 0 → 0 ≤ at_ →
    (x.k ≠ k → r = false) ∧ (x.s ≠ s → r = false) ∧ (x.n ≠ n → r = false) ∧ (x.at_ ≠ 0 → r = false) ∧ (x.k = k → x.s = s → x.n = n → x.at_ = 0 → (Z ≠ u.size → r = false) ∧ (Z = u.size → r = true))
theorem rt_of (t : Tk) : RT (textS t) (lexS (textS t)).1 (lexS (textS t)).2.2 (oneS (textS t) 0).2.1 t.k t.at_ t.n t.s (rokB t) := by
  have no : rokB t = true → 0 ≤ t.at_ ∧ (lexS (textS t)).2.2 = 0 ∧ (lexS (textS t)).1 = [{ t with at_ := 0 }] ∧ (oneS (textS t) 0).2.1 = (textS t).size := fun h => by
    unfold rokB at h
    simp only [Bool.and_eq_true, decide_eq_true_eq] at h
    exact ⟨h.1, h.2.1, eqK_full.1 h.2.2.1, h.2.2.2⟩
  have ff : ∀ {p : Prop}, (rokB t = true → ¬ p) → p → rokB t = false := fun {p} h hp => by
    cases hr : rokB t
    · rfl
    · exact absurd hp (h hr)
  refine ⟨ff fun h => by have := (no h).1; omega, ff fun h => by have := (no h).2.1; omega, ff fun h => by rw [(no h).2.2.1]; simp, fun x hx h0 hat => ⟨ff fun h => ?_, ff fun h => ?_, ff fun h => ?_, ff fun h => ?_, fun e1 e2 e3 e4 => ⟨ff fun h => ?_, fun hz => ?_⟩⟩⟩
  · have e := (no h).2.2.1; rw [hx] at e; cases e; simp
  · have e := (no h).2.2.1; rw [hx] at e; cases e; simp
  · have e := (no h).2.2.1; rw [hx] at e; cases e; simp
  · have e := (no h).2.2.1; rw [hx] at e; cases e; simp
  · have e := (no h).2.2.2; simp [e]
  · have ex : x = { t with at_ := 0 } := by
      obtain ⟨a, b, c, d⟩ := x
      simp only at e1 e2 e3 e4
      subst e1 e2 e3 e4
      rfl
    unfold rokB
    rw [h0, hx, hz, ← ex, decide_eq_true hat, eqK_full.2 rfl]
    simp
/-- What Text answers. -/
def rtOut (r : Bool) (u : ByteArray) : Value := .tuple #[.string (if r = true then u else ⟨#[]⟩), .int .i64 (if r = true then 0 else 2)]
theorem text_le {t : Tk} (h : Num64 t) : (textS t).size ≤ 1000000001 := by
  have h1 := h.2.2
  unfold textS
  split
  · rw [ByteArray.size_append]
    have : (⟨#[39]⟩ : ByteArray).size = 1 := rfl
    omega
  · split
    · have e : (⟨(Lib.itoa t.n).toArray⟩ : ByteArray).size = (Lib.itoa t.n).length := by simp [ByteArray.size]
      rw [e]
      have := Lib.itoa_length_le t.n h.1 h.2.1; omega
    · omega
set_option maxRecDepth 100000 in
set_option maxHeartbeats 16000000 in
theorem rtext_any (t : Tk) (hn : Num64 t) (w : World) (hT : Tab w) : Calls Tryz.prog 7 #[.agg (tkC t)] w fun e w' => e = .returned (rtOut (mayS t) (textS t)) ∧ KB F0 w w' := by
  obtain ⟨w0, rfl⟩ : ∃ w0, w0 = w := ⟨_, rfl⟩
  rw [show tkC t = #[.int .u8 (t.k : Nat), .int .i64 t.at_, .int .i64 t.n, .string t.s] from rfl]
  rw [← rok_may]
  have HR : Hid (RT (textS t) (lexS (textS t)).1 (lexS (textS t)).2.2 (oneS (textS t) 0).2.1 t.k t.at_ t.n t.s (rokB t)) := Lib.hid (rt_of t)
  have TB := Lib.hid (fun (W : World) (hk : KB F0 w0 W) => hT.kb hk)
  have HN := Lib.hid hn
  have hus : (textS t).size ≤ 1000000001 := text_le hn
  have RL := Lib.hid (fun (W : World) => rlexT_any (textS t) (by omega) W)
  obtain ⟨r, hr⟩ : ∃ r, r = rokB t := ⟨_, rfl⟩
  rw [← hr] at HR ⊢
  clear hr
  obtain ⟨Z, hZ⟩ : ∃ Z, Z = (oneS (textS t) 0).2.1 := ⟨_, rfl⟩
  have RE := Lib.hid (fun (x : Tk) (h0 : (lexS (textS t)).2.2 = 0) (h1 : (lexS (textS t)).1 = [x]) (hx : x.at_ = 0) (W : World) => rends_any (textS t) x h0 h1 hx W)
  rw [← hZ] at HR RE
  clear hZ
  generalize (lexS (textS t)).2.2 = E at HR RL RE
  generalize (lexS (textS t)).2.1 = p0 at RL
  generalize (lexS (textS t)).1 = l at HR RL RE
  obtain ⟨u, hu⟩ : ∃ u, u = textS t := ⟨_, rfl⟩
  rw [← hu] at HR RL RE hus ⊢
  have hu2 := hu
  unfold textS at hu2
  clear hn hT hu
  obtain ⟨k, at_, n, s⟩ := t
  simp only at hu2 HR HN ⊢
  have hs0 : (w0.alloc (.cells #[.int .u8 (k : Nat), .int .i64 at_, .int .i64 n, .string s] 27)).heap[w0.heap.size]? = some (.cells #[.int .u8 (k : Nat), .int .i64 at_, .int .i64 n, .string s] 27 (0, 0)) := alloc_new _ _
  have H0 := Lib.hid (And.intro ((KB.refl F0 w0).alloc (.cells #[.int .u8 (k : Nat), .int .i64 at_, .int .i64 n, .string s] 27)) hs0)
  clear hs0
  have iu : u.size ≤ 9223372036854775807 := by omega
  have PRE : True := trivial
  by_cases h4 : k = 4
  · have d1 : ((k : Int) == 4) = true := by simp; omega
    have d2 : ((k : Int) == 5) = false := by simp; omega
    rw [if_pos h4] at hu2
    have HU := Lib.hid hu2
    have z1 : ¬ (9223372036854775807 < 1 + s.size) := by have h1 := HN.out.2.2; simp only at h1; omega
    have z2 : ¬ (1 + s.size > 9223372036854775807) := z1
    clear hu2 h4
    go_enter Tryz.func7, Tryz.ntmps7
    go_wp2_with fail
    rw [← HU.out]
    have KX := H0
    refine (RL.out _).mono ?_
    rintro e w2 ⟨a, c, rfl, hc, ht, k2⟩
    have hb := k2.heap (fun x => x) KX.out.2
    have b0 : w2.cell? ⟨w0.heap.size, 0, none⟩ = some (.int .u8 (k : Nat)) := blk_cell hb 0
    have b1 : w2.cell? ⟨w0.heap.size, 1, none⟩ = some (.int .i64 at_) := blk_cell hb 1
    have b2 : w2.cell? ⟨w0.heap.size, 2, none⟩ = some (.int .i64 n) := blk_cell hb 2
    have b3 : w2.cell? ⟨w0.heap.size, 3, none⟩ = some (.string s) := blk_cell hb 3
    have K2 := Lib.hid (KX.out.1.trans k2)
    clear k2 hb RL
    (try clear c0 c1 c2 c3)
    by_cases hat : at_ < 0
    · have t1 : decide (at_ < 0) = true := decide_eq_true hat
      have HE : Hid (r = false) := Lib.hid (HR.out.1 (by omega))
      clear hat ht hc
      go_wp2_with fail
      refine wp_region_rv 46 GQ (kindV []) (by kernel_rfl) (by kernel_rfl) GQ.trans GQ.refl (GQ.start _) (kindV_mono _) ?_
      simp only [List.take_succ_cons, List.take_zero, List.drop_succ_cons, List.drop_zero]
      iterate 4 (refine rv_det (by kernel_rfl) rfl (by intro w hG hH; obtain ⟨n, rfl⟩ := hG; go_simp; first | done | with_reducible rfl) ?_; simp only [Act.put, List.setIfInBounds_toArray, List.set_cons_zero, List.set_cons_succ])
      iterate 2 (refine rv_skip (by kernel_rfl) ?_; simp only [Act.put, List.setIfInBounds_toArray, List.set_cons_zero, List.set_cons_succ])
      iterate 2 (refine rv_det (by kernel_rfl) rfl (by intro w hG hH; obtain ⟨n, rfl⟩ := hG; go_simp; first | done | with_reducible rfl) ?_; simp only [Act.put, List.setIfInBounds_toArray, List.set_cons_zero, List.set_cons_succ])
      iterate 3 (refine rv_skip (by kernel_rfl) ?_; simp only [Act.put, List.setIfInBounds_toArray, List.set_cons_zero, List.set_cons_succ])
      iterate 2 (refine rv_det (by kernel_rfl) rfl (by intro w hG hH; obtain ⟨n, rfl⟩ := hG; go_simp; first | done | with_reducible rfl) ?_; simp only [Act.put, List.setIfInBounds_toArray, List.set_cons_zero, List.set_cons_succ])
      iterate 7 (refine rv_skip (by kernel_rfl) ?_; simp only [Act.put, List.setIfInBounds_toArray, List.set_cons_zero, List.set_cons_succ])
      iterate 2 (refine rv_det (by kernel_rfl) rfl (by intro w hG hH; obtain ⟨n, rfl⟩ := hG; go_simp; first | done | with_reducible rfl) ?_; simp only [Act.put, List.setIfInBounds_toArray, List.set_cons_zero, List.set_cons_succ])
      iterate 7 (refine rv_skip (by kernel_rfl) ?_; simp only [Act.put, List.setIfInBounds_toArray, List.set_cons_zero, List.set_cons_succ])
      iterate 2 (refine rv_det (by kernel_rfl) rfl (by intro w hG hH; obtain ⟨n, rfl⟩ := hG; go_simp; first | done | with_reducible rfl) ?_; simp only [Act.put, List.setIfInBounds_toArray, List.set_cons_zero, List.set_cons_succ])
      iterate 7 (refine rv_skip (by kernel_rfl) ?_; simp only [Act.put, List.setIfInBounds_toArray, List.set_cons_zero, List.set_cons_succ])
      iterate 2 (refine rv_det (by kernel_rfl) rfl (by intro w hG hH; obtain ⟨n, rfl⟩ := hG; go_simp; first | done | with_reducible rfl) ?_; simp only [Act.put, List.setIfInBounds_toArray, List.set_cons_zero, List.set_cons_succ])
      iterate 5 (refine rv_skip (by kernel_rfl) ?_; simp only [Act.put, List.setIfInBounds_toArray, List.set_cons_zero, List.set_cons_succ])
      refine rv_det (by kernel_rfl) rfl (by intro w hG hH; obtain ⟨n, rfl⟩ := hG; go_simp; first | done | with_reducible rfl) ?_
      simp only [Act.put, List.setIfInBounds_toArray, List.set_cons_zero, List.set_cons_succ]
      refine rv_nil (fun w hG hH => ?_)
      obtain ⟨n, rfl⟩ := hG
      clear hH
      go_wp2_with fail
      go_ret2
      exact ⟨ret_eq (by rw [HE.out]; rfl), K2.out.drewN _⟩
    have t1 : decide (at_ < 0) = false := decide_eq_false hat
    by_cases he : E = 0
    case neg =>
      have t2 : ((E : Int) != 0) = true := by simp; omega
      have t2' : ((E : Int) == 0) = false := by simp; omega
      have HE : Hid (r = false) := Lib.hid (HR.out.2.1 he)
      clear hat ht hc he
      go_wp2_with fail
      refine wp_region_rv 46 GQ (kindV []) (by kernel_rfl) (by kernel_rfl) GQ.trans GQ.refl (GQ.start _) (kindV_mono _) ?_
      simp only [List.take_succ_cons, List.take_zero, List.drop_succ_cons, List.drop_zero]
      iterate 8 (refine rv_det (by kernel_rfl) rfl (by intro w hG hH; obtain ⟨n, rfl⟩ := hG; go_simp; first | done | with_reducible rfl) ?_; simp only [Act.put, List.setIfInBounds_toArray, List.set_cons_zero, List.set_cons_succ])
      iterate 3 (refine rv_skip (by kernel_rfl) ?_; simp only [Act.put, List.setIfInBounds_toArray, List.set_cons_zero, List.set_cons_succ])
      iterate 2 (refine rv_det (by kernel_rfl) rfl (by intro w hG hH; obtain ⟨n, rfl⟩ := hG; go_simp; first | done | with_reducible rfl) ?_; simp only [Act.put, List.setIfInBounds_toArray, List.set_cons_zero, List.set_cons_succ])
      iterate 7 (refine rv_skip (by kernel_rfl) ?_; simp only [Act.put, List.setIfInBounds_toArray, List.set_cons_zero, List.set_cons_succ])
      iterate 2 (refine rv_det (by kernel_rfl) rfl (by intro w hG hH; obtain ⟨n, rfl⟩ := hG; go_simp; first | done | with_reducible rfl) ?_; simp only [Act.put, List.setIfInBounds_toArray, List.set_cons_zero, List.set_cons_succ])
      iterate 7 (refine rv_skip (by kernel_rfl) ?_; simp only [Act.put, List.setIfInBounds_toArray, List.set_cons_zero, List.set_cons_succ])
      iterate 2 (refine rv_det (by kernel_rfl) rfl (by intro w hG hH; obtain ⟨n, rfl⟩ := hG; go_simp; first | done | with_reducible rfl) ?_; simp only [Act.put, List.setIfInBounds_toArray, List.set_cons_zero, List.set_cons_succ])
      iterate 7 (refine rv_skip (by kernel_rfl) ?_; simp only [Act.put, List.setIfInBounds_toArray, List.set_cons_zero, List.set_cons_succ])
      iterate 2 (refine rv_det (by kernel_rfl) rfl (by intro w hG hH; obtain ⟨n, rfl⟩ := hG; go_simp; first | done | with_reducible rfl) ?_; simp only [Act.put, List.setIfInBounds_toArray, List.set_cons_zero, List.set_cons_succ])
      iterate 5 (refine rv_skip (by kernel_rfl) ?_; simp only [Act.put, List.setIfInBounds_toArray, List.set_cons_zero, List.set_cons_succ])
      refine rv_det (by kernel_rfl) rfl (by intro w hG hH; obtain ⟨n, rfl⟩ := hG; go_simp; first | done | with_reducible rfl) ?_
      simp only [Act.put, List.setIfInBounds_toArray, List.set_cons_zero, List.set_cons_succ]
      refine rv_nil (fun w hG hH => ?_)
      obtain ⟨n, rfl⟩ := hG
      clear hH
      go_wp2_with fail
      go_ret2
      exact ⟨ret_eq (by rw [HE.out]; rfl), K2.out.drewN _⟩
    subst he
    by_cases hl : l.length = 1
    case neg =>
      have HE : Hid (r = false) := Lib.hid (HR.out.2.2.1 hl)
      have t3 : ((l.length : Int) != 1) = true := by simp; omega
      have t3' : ((l.length : Int) == 1) = false := by simp; omega
      clear ht hc
      generalize l.length = N at t3 t3' hl ⊢
      clear hl hat
      go_wp2_with fail
      refine wp_region_rv 46 GQ (kindV []) (by kernel_rfl) (by kernel_rfl) GQ.trans GQ.refl (GQ.start _) (kindV_mono _) ?_
      simp only [List.take_succ_cons, List.take_zero, List.drop_succ_cons, List.drop_zero]
      iterate 13 (refine rv_det (by kernel_rfl) rfl (by intro w hG hH; obtain ⟨n, rfl⟩ := hG; go_simp; first | done | with_reducible rfl) ?_; simp only [Act.put, List.setIfInBounds_toArray, List.set_cons_zero, List.set_cons_succ])
      iterate 7 (refine rv_skip (by kernel_rfl) ?_; simp only [Act.put, List.setIfInBounds_toArray, List.set_cons_zero, List.set_cons_succ])
      iterate 2 (refine rv_det (by kernel_rfl) rfl (by intro w hG hH; obtain ⟨n, rfl⟩ := hG; go_simp; first | done | with_reducible rfl) ?_; simp only [Act.put, List.setIfInBounds_toArray, List.set_cons_zero, List.set_cons_succ])
      iterate 7 (refine rv_skip (by kernel_rfl) ?_; simp only [Act.put, List.setIfInBounds_toArray, List.set_cons_zero, List.set_cons_succ])
      iterate 2 (refine rv_det (by kernel_rfl) rfl (by intro w hG hH; obtain ⟨n, rfl⟩ := hG; go_simp; first | done | with_reducible rfl) ?_; simp only [Act.put, List.setIfInBounds_toArray, List.set_cons_zero, List.set_cons_succ])
      iterate 7 (refine rv_skip (by kernel_rfl) ?_; simp only [Act.put, List.setIfInBounds_toArray, List.set_cons_zero, List.set_cons_succ])
      iterate 2 (refine rv_det (by kernel_rfl) rfl (by intro w hG hH; obtain ⟨n, rfl⟩ := hG; go_simp; first | done | with_reducible rfl) ?_; simp only [Act.put, List.setIfInBounds_toArray, List.set_cons_zero, List.set_cons_succ])
      iterate 5 (refine rv_skip (by kernel_rfl) ?_; simp only [Act.put, List.setIfInBounds_toArray, List.set_cons_zero, List.set_cons_succ])
      refine rv_det (by kernel_rfl) rfl (by intro w hG hH; obtain ⟨n, rfl⟩ := hG; go_simp; first | done | with_reducible rfl) ?_
      simp only [Act.put, List.setIfInBounds_toArray, List.set_cons_zero, List.set_cons_succ]
      refine rv_nil (fun w hG hH => ?_)
      obtain ⟨n, rfl⟩ := hG
      clear hH
      go_wp2_with fail
      go_ret2
      exact ⟨ret_eq (by rw [HE.out]; rfl), K2.out.drewN _⟩
    obtain ⟨x, rfl⟩ := List.length_eq_one_iff.1 hl
    obtain ⟨b, off, rfl, hx⟩ := ht 0 (by simp)
    simp only [List.getD_cons_zero, List.length_singleton, Nat.zero_mul, Nat.add_zero] at hx hc ⊢
    have HRX := Lib.hid (HR.out.2.2.2 x rfl rfl (by omega))
    obtain ⟨xk, xa, xn, xs⟩ := x
    have y0 := hx.k
    have y1 := hx.at_
    have y2 := hx.n
    have y3 := hx.s
    simp only at y0 y1 y2 y3 HRX
    clear hx ht hl hat HR
    by_cases hk : xk = k
    case neg =>
      have t4 : ((xk : Int) == (k : Int)) = false := by simp; omega
      have t4' : ((xk : Int) != (k : Int)) = true := by simp; omega
      have HE : Hid (r = false) := Lib.hid (HRX.out.1 hk)
      clear hk
      go_wp2_with fail
      refine wp_region_rv 46 GQ (kindV []) (by kernel_rfl) (by kernel_rfl) GQ.trans GQ.refl (GQ.start _) (kindV_mono _) ?_
      simp only [List.take_succ_cons, List.take_zero, List.drop_succ_cons, List.drop_zero]
      iterate 22 (refine rv_det (by kernel_rfl) rfl (by intro w hG hH; obtain ⟨n, rfl⟩ := hG; go_simp; first | done | with_reducible rfl) ?_; simp only [Act.put, List.setIfInBounds_toArray, List.set_cons_zero, List.set_cons_succ])
      iterate 7 (refine rv_skip (by kernel_rfl) ?_; simp only [Act.put, List.setIfInBounds_toArray, List.set_cons_zero, List.set_cons_succ])
      iterate 2 (refine rv_det (by kernel_rfl) rfl (by intro w hG hH; obtain ⟨n, rfl⟩ := hG; go_simp; first | done | with_reducible rfl) ?_; simp only [Act.put, List.setIfInBounds_toArray, List.set_cons_zero, List.set_cons_succ])
      iterate 7 (refine rv_skip (by kernel_rfl) ?_; simp only [Act.put, List.setIfInBounds_toArray, List.set_cons_zero, List.set_cons_succ])
      iterate 2 (refine rv_det (by kernel_rfl) rfl (by intro w hG hH; obtain ⟨n, rfl⟩ := hG; go_simp; first | done | with_reducible rfl) ?_; simp only [Act.put, List.setIfInBounds_toArray, List.set_cons_zero, List.set_cons_succ])
      iterate 5 (refine rv_skip (by kernel_rfl) ?_; simp only [Act.put, List.setIfInBounds_toArray, List.set_cons_zero, List.set_cons_succ])
      refine rv_det (by kernel_rfl) rfl (by intro w hG hH; obtain ⟨n, rfl⟩ := hG; go_simp; first | done | with_reducible rfl) ?_
      simp only [Act.put, List.setIfInBounds_toArray, List.set_cons_zero, List.set_cons_succ]
      refine rv_nil (fun w hG hH => ?_)
      obtain ⟨n, rfl⟩ := hG
      clear hH
      go_wp2_with fail
      go_ret2
      exact ⟨ret_eq (by rw [HE.out]; rfl), K2.out.drewN _⟩
    subst hk
    by_cases hs : s = xs
    case neg =>
      have t5 : (xs.toList == s.toList) = false := by rw [tl_beq]; exact decide_eq_false (fun e => hs e.symm)
      have HE : Hid (r = false) := Lib.hid (HRX.out.2.1 (fun e => hs e.symm))
      clear hs
      go_wp2_with fail
      refine wp_region_rv 46 GQ (kindV []) (by kernel_rfl) (by kernel_rfl) GQ.trans GQ.refl (GQ.start _) (kindV_mono _) ?_
      simp only [List.take_succ_cons, List.take_zero, List.drop_succ_cons, List.drop_zero]
      iterate 31 (refine rv_det (by kernel_rfl) rfl (by intro w hG hH; obtain ⟨n, rfl⟩ := hG; go_simp; first | done | with_reducible rfl) ?_; simp only [Act.put, List.setIfInBounds_toArray, List.set_cons_zero, List.set_cons_succ])
      iterate 7 (refine rv_skip (by kernel_rfl) ?_; simp only [Act.put, List.setIfInBounds_toArray, List.set_cons_zero, List.set_cons_succ])
      iterate 2 (refine rv_det (by kernel_rfl) rfl (by intro w hG hH; obtain ⟨n, rfl⟩ := hG; go_simp; first | done | with_reducible rfl) ?_; simp only [Act.put, List.setIfInBounds_toArray, List.set_cons_zero, List.set_cons_succ])
      iterate 5 (refine rv_skip (by kernel_rfl) ?_; simp only [Act.put, List.setIfInBounds_toArray, List.set_cons_zero, List.set_cons_succ])
      refine rv_det (by kernel_rfl) rfl (by intro w hG hH; obtain ⟨n, rfl⟩ := hG; go_simp; first | done | with_reducible rfl) ?_
      simp only [Act.put, List.setIfInBounds_toArray, List.set_cons_zero, List.set_cons_succ]
      refine rv_nil (fun w hG hH => ?_)
      obtain ⟨n, rfl⟩ := hG
      clear hH
      go_wp2_with fail
      go_ret2
      exact ⟨ret_eq (by rw [HE.out]; rfl), K2.out.drewN _⟩
    subst hs
    by_cases hn : xn = n
    case neg =>
      have t6 : (xn == n) = false := by simpa using hn
      have t6' : (xn != n) = true := by simp [hn]
      have HE : Hid (r = false) := Lib.hid (HRX.out.2.2.1 hn)
      clear hn
      go_wp2_with fail
      refine wp_region_rv 46 GQ (kindV []) (by kernel_rfl) (by kernel_rfl) GQ.trans GQ.refl (GQ.start _) (kindV_mono _) ?_
      simp only [List.take_succ_cons, List.take_zero, List.drop_succ_cons, List.drop_zero]
      iterate 40 (refine rv_det (by kernel_rfl) rfl (by intro w hG hH; obtain ⟨n, rfl⟩ := hG; go_simp; first | done | with_reducible rfl) ?_; simp only [Act.put, List.setIfInBounds_toArray, List.set_cons_zero, List.set_cons_succ])
      iterate 5 (refine rv_skip (by kernel_rfl) ?_; simp only [Act.put, List.setIfInBounds_toArray, List.set_cons_zero, List.set_cons_succ])
      refine rv_det (by kernel_rfl) rfl (by intro w hG hH; obtain ⟨n, rfl⟩ := hG; go_simp; first | done | with_reducible rfl) ?_
      simp only [Act.put, List.setIfInBounds_toArray, List.set_cons_zero, List.set_cons_succ]
      refine rv_nil (fun w hG hH => ?_)
      obtain ⟨n, rfl⟩ := hG
      clear hH
      go_wp2_with fail
      go_ret2
      exact ⟨ret_eq (by rw [HE.out]; rfl), K2.out.drewN _⟩
    subst hn
    by_cases ha : xa = 0
    case neg =>
      have t7 : (xa == 0) = false := by simpa using ha
      have t7' : (xa != 0) = true := by simp [ha]
      have HE : Hid (r = false) := Lib.hid (HRX.out.2.2.2.1 ha)
      clear ha
      go_wp2_with fail
      refine wp_region_rv 46 GQ (kindV []) (by kernel_rfl) (by kernel_rfl) GQ.trans GQ.refl (GQ.start _) (kindV_mono _) ?_
      simp only [List.take_succ_cons, List.take_zero, List.drop_succ_cons, List.drop_zero]
      iterate 46 (refine rv_det (by kernel_rfl) rfl (by intro w hG hH; obtain ⟨n, rfl⟩ := hG; go_simp; first | done | with_reducible rfl) ?_; simp only [Act.put, List.setIfInBounds_toArray, List.set_cons_zero, List.set_cons_succ])
      refine rv_nil (fun w hG hH => ?_)
      obtain ⟨n, rfl⟩ := hG
      clear hH
      go_wp2_with fail
      go_ret2
      exact ⟨ret_eq (by rw [HE.out]; rfl), K2.out.drewN _⟩
    subst ha
    have HRR := Lib.hid (HRX.out.2.2.2.2 rfl rfl rfl rfl)
    have RE3 := Lib.hid (RE.out _ rfl rfl rfl)
    clear RE
    go_wp2_with fail
    refine wp_region_rv 46 GQ (kindV []) (by kernel_rfl) (by kernel_rfl) GQ.trans GQ.refl (GQ.start _) (kindV_mono _) ?_
    simp only [List.take_succ_cons, List.take_zero, List.drop_succ_cons, List.drop_zero]
    iterate 46 (refine rv_det (by kernel_rfl) rfl (by intro w hG hH; obtain ⟨n, rfl⟩ := hG; go_simp; first | done | with_reducible rfl) ?_; simp only [Act.put, List.setIfInBounds_toArray, List.set_cons_zero, List.set_cons_succ])
    refine rv_nil (fun w hG hH => ?_)
    obtain ⟨n, rfl⟩ := hG
    clear hH
    have KN := Lib.hid (K2.out.drewN n)
    clear b0 b1 b2 b3 y0 y1 y2 y3
    go_wp2_with fail
    refine (RE3.out _).mono ?_
    rintro e w3 ⟨rfl, k3⟩
    have K3 := Lib.hid (KN.out.trans k3)
    clear k3
    by_cases hz : Z = u.size
    · have t8 : ((Z : Int) != (u.size : Int)) = false := by simp; omega
      have t8' : ((Z : Int) == (u.size : Int)) = true := by simp; omega
      have HE : Hid (r = true) := Lib.hid (HRR.out.2 hz)
      clear hz
      go_wp2_with fail
      go_ret2
      exact ⟨ret_eq (by rw [HE.out]; rfl), K3.out⟩
    · have t8 : ((Z : Int) != (u.size : Int)) = true := by simp; omega
      have t8' : ((Z : Int) == (u.size : Int)) = false := by simp; omega
      have HE : Hid (r = false) := Lib.hid (HRR.out.1 hz)
      clear hz
      go_wp2_with fail
      go_ret2
      exact ⟨ret_eq (by rw [HE.out]; rfl), K3.out⟩
  · have d1 : ((k : Int) == 4) = false := by simp; omega
    rw [if_neg h4] at hu2
    by_cases h5 : k = 5
    · have d2 : ((k : Int) == 5) = true := by simp; omega
      rw [if_pos h5] at hu2
      have HU := Lib.hid hu2
      have FI := Lib.hid (fun (W : World) (hk : KB F0 w0 W) => Tryz.strconv_FormatInt_10 n HN.out.1 HN.out.2.1 W (TB.out W hk).pow)
      clear hu2 h4 h5
      go_enter Tryz.func7, Tryz.ntmps7
      go_wp2_with fail
      refine (FI.out _ H0.out.1).mono ?_
      rintro e w1 ⟨rfl, hw⟩
      have kw := kb_grow hw
      have hb := kw.heap (fun x => x) H0.out.2
      have c0 : w1.cell? ⟨w0.heap.size, 0, none⟩ = some (.int .u8 (k : Nat)) := blk_cell hb 0
      have c1 : w1.cell? ⟨w0.heap.size, 1, none⟩ = some (.int .i64 at_) := blk_cell hb 1
      have c2 : w1.cell? ⟨w0.heap.size, 2, none⟩ = some (.int .i64 n) := blk_cell hb 2
      have c3 : w1.cell? ⟨w0.heap.size, 3, none⟩ = some (.string s) := blk_cell hb 3
      have KX := Lib.hid (And.intro (H0.out.1.trans kw) hb)
      clear hw kw hb
      rw [← HU.out]
      go_wp2_with fail
      refine (RL.out _).mono ?_
      rintro e w2 ⟨a, c, rfl, hc, ht, k2⟩
      have hb := k2.heap (fun x => x) KX.out.2
      have b0 : w2.cell? ⟨w0.heap.size, 0, none⟩ = some (.int .u8 (k : Nat)) := blk_cell hb 0
      have b1 : w2.cell? ⟨w0.heap.size, 1, none⟩ = some (.int .i64 at_) := blk_cell hb 1
      have b2 : w2.cell? ⟨w0.heap.size, 2, none⟩ = some (.int .i64 n) := blk_cell hb 2
      have b3 : w2.cell? ⟨w0.heap.size, 3, none⟩ = some (.string s) := blk_cell hb 3
      have K2 := Lib.hid (KX.out.1.trans k2)
      clear k2 hb RL
      (try clear c0 c1 c2 c3)
      by_cases hat : at_ < 0
      · have t1 : decide (at_ < 0) = true := decide_eq_true hat
        have HE : Hid (r = false) := Lib.hid (HR.out.1 (by omega))
        clear hat ht hc
        go_wp2_with fail
        refine wp_region_rv 46 GQ (kindV []) (by kernel_rfl) (by kernel_rfl) GQ.trans GQ.refl (GQ.start _) (kindV_mono _) ?_
        simp only [List.take_succ_cons, List.take_zero, List.drop_succ_cons, List.drop_zero]
        iterate 4 (refine rv_det (by kernel_rfl) rfl (by intro w hG hH; obtain ⟨n, rfl⟩ := hG; go_simp; first | done | with_reducible rfl) ?_; simp only [Act.put, List.setIfInBounds_toArray, List.set_cons_zero, List.set_cons_succ])
        iterate 2 (refine rv_skip (by kernel_rfl) ?_; simp only [Act.put, List.setIfInBounds_toArray, List.set_cons_zero, List.set_cons_succ])
        iterate 2 (refine rv_det (by kernel_rfl) rfl (by intro w hG hH; obtain ⟨n, rfl⟩ := hG; go_simp; first | done | with_reducible rfl) ?_; simp only [Act.put, List.setIfInBounds_toArray, List.set_cons_zero, List.set_cons_succ])
        iterate 3 (refine rv_skip (by kernel_rfl) ?_; simp only [Act.put, List.setIfInBounds_toArray, List.set_cons_zero, List.set_cons_succ])
        iterate 2 (refine rv_det (by kernel_rfl) rfl (by intro w hG hH; obtain ⟨n, rfl⟩ := hG; go_simp; first | done | with_reducible rfl) ?_; simp only [Act.put, List.setIfInBounds_toArray, List.set_cons_zero, List.set_cons_succ])
        iterate 7 (refine rv_skip (by kernel_rfl) ?_; simp only [Act.put, List.setIfInBounds_toArray, List.set_cons_zero, List.set_cons_succ])
        iterate 2 (refine rv_det (by kernel_rfl) rfl (by intro w hG hH; obtain ⟨n, rfl⟩ := hG; go_simp; first | done | with_reducible rfl) ?_; simp only [Act.put, List.setIfInBounds_toArray, List.set_cons_zero, List.set_cons_succ])
        iterate 7 (refine rv_skip (by kernel_rfl) ?_; simp only [Act.put, List.setIfInBounds_toArray, List.set_cons_zero, List.set_cons_succ])
        iterate 2 (refine rv_det (by kernel_rfl) rfl (by intro w hG hH; obtain ⟨n, rfl⟩ := hG; go_simp; first | done | with_reducible rfl) ?_; simp only [Act.put, List.setIfInBounds_toArray, List.set_cons_zero, List.set_cons_succ])
        iterate 7 (refine rv_skip (by kernel_rfl) ?_; simp only [Act.put, List.setIfInBounds_toArray, List.set_cons_zero, List.set_cons_succ])
        iterate 2 (refine rv_det (by kernel_rfl) rfl (by intro w hG hH; obtain ⟨n, rfl⟩ := hG; go_simp; first | done | with_reducible rfl) ?_; simp only [Act.put, List.setIfInBounds_toArray, List.set_cons_zero, List.set_cons_succ])
        iterate 5 (refine rv_skip (by kernel_rfl) ?_; simp only [Act.put, List.setIfInBounds_toArray, List.set_cons_zero, List.set_cons_succ])
        refine rv_det (by kernel_rfl) rfl (by intro w hG hH; obtain ⟨n, rfl⟩ := hG; go_simp; first | done | with_reducible rfl) ?_
        simp only [Act.put, List.setIfInBounds_toArray, List.set_cons_zero, List.set_cons_succ]
        refine rv_nil (fun w hG hH => ?_)
        obtain ⟨n, rfl⟩ := hG
        clear hH
        go_wp2_with fail
        go_ret2
        exact ⟨ret_eq (by rw [HE.out]; rfl), K2.out.drewN _⟩
      have t1 : decide (at_ < 0) = false := decide_eq_false hat
      by_cases he : E = 0
      case neg =>
        have t2 : ((E : Int) != 0) = true := by simp; omega
        have t2' : ((E : Int) == 0) = false := by simp; omega
        have HE : Hid (r = false) := Lib.hid (HR.out.2.1 he)
        clear hat ht hc he
        go_wp2_with fail
        refine wp_region_rv 46 GQ (kindV []) (by kernel_rfl) (by kernel_rfl) GQ.trans GQ.refl (GQ.start _) (kindV_mono _) ?_
        simp only [List.take_succ_cons, List.take_zero, List.drop_succ_cons, List.drop_zero]
        iterate 8 (refine rv_det (by kernel_rfl) rfl (by intro w hG hH; obtain ⟨n, rfl⟩ := hG; go_simp; first | done | with_reducible rfl) ?_; simp only [Act.put, List.setIfInBounds_toArray, List.set_cons_zero, List.set_cons_succ])
        iterate 3 (refine rv_skip (by kernel_rfl) ?_; simp only [Act.put, List.setIfInBounds_toArray, List.set_cons_zero, List.set_cons_succ])
        iterate 2 (refine rv_det (by kernel_rfl) rfl (by intro w hG hH; obtain ⟨n, rfl⟩ := hG; go_simp; first | done | with_reducible rfl) ?_; simp only [Act.put, List.setIfInBounds_toArray, List.set_cons_zero, List.set_cons_succ])
        iterate 7 (refine rv_skip (by kernel_rfl) ?_; simp only [Act.put, List.setIfInBounds_toArray, List.set_cons_zero, List.set_cons_succ])
        iterate 2 (refine rv_det (by kernel_rfl) rfl (by intro w hG hH; obtain ⟨n, rfl⟩ := hG; go_simp; first | done | with_reducible rfl) ?_; simp only [Act.put, List.setIfInBounds_toArray, List.set_cons_zero, List.set_cons_succ])
        iterate 7 (refine rv_skip (by kernel_rfl) ?_; simp only [Act.put, List.setIfInBounds_toArray, List.set_cons_zero, List.set_cons_succ])
        iterate 2 (refine rv_det (by kernel_rfl) rfl (by intro w hG hH; obtain ⟨n, rfl⟩ := hG; go_simp; first | done | with_reducible rfl) ?_; simp only [Act.put, List.setIfInBounds_toArray, List.set_cons_zero, List.set_cons_succ])
        iterate 7 (refine rv_skip (by kernel_rfl) ?_; simp only [Act.put, List.setIfInBounds_toArray, List.set_cons_zero, List.set_cons_succ])
        iterate 2 (refine rv_det (by kernel_rfl) rfl (by intro w hG hH; obtain ⟨n, rfl⟩ := hG; go_simp; first | done | with_reducible rfl) ?_; simp only [Act.put, List.setIfInBounds_toArray, List.set_cons_zero, List.set_cons_succ])
        iterate 5 (refine rv_skip (by kernel_rfl) ?_; simp only [Act.put, List.setIfInBounds_toArray, List.set_cons_zero, List.set_cons_succ])
        refine rv_det (by kernel_rfl) rfl (by intro w hG hH; obtain ⟨n, rfl⟩ := hG; go_simp; first | done | with_reducible rfl) ?_
        simp only [Act.put, List.setIfInBounds_toArray, List.set_cons_zero, List.set_cons_succ]
        refine rv_nil (fun w hG hH => ?_)
        obtain ⟨n, rfl⟩ := hG
        clear hH
        go_wp2_with fail
        go_ret2
        exact ⟨ret_eq (by rw [HE.out]; rfl), K2.out.drewN _⟩
      subst he
      by_cases hl : l.length = 1
      case neg =>
        have HE : Hid (r = false) := Lib.hid (HR.out.2.2.1 hl)
        have t3 : ((l.length : Int) != 1) = true := by simp; omega
        have t3' : ((l.length : Int) == 1) = false := by simp; omega
        clear ht hc
        generalize l.length = N at t3 t3' hl ⊢
        clear hl hat
        go_wp2_with fail
        refine wp_region_rv 46 GQ (kindV []) (by kernel_rfl) (by kernel_rfl) GQ.trans GQ.refl (GQ.start _) (kindV_mono _) ?_
        simp only [List.take_succ_cons, List.take_zero, List.drop_succ_cons, List.drop_zero]
        iterate 13 (refine rv_det (by kernel_rfl) rfl (by intro w hG hH; obtain ⟨n, rfl⟩ := hG; go_simp; first | done | with_reducible rfl) ?_; simp only [Act.put, List.setIfInBounds_toArray, List.set_cons_zero, List.set_cons_succ])
        iterate 7 (refine rv_skip (by kernel_rfl) ?_; simp only [Act.put, List.setIfInBounds_toArray, List.set_cons_zero, List.set_cons_succ])
        iterate 2 (refine rv_det (by kernel_rfl) rfl (by intro w hG hH; obtain ⟨n, rfl⟩ := hG; go_simp; first | done | with_reducible rfl) ?_; simp only [Act.put, List.setIfInBounds_toArray, List.set_cons_zero, List.set_cons_succ])
        iterate 7 (refine rv_skip (by kernel_rfl) ?_; simp only [Act.put, List.setIfInBounds_toArray, List.set_cons_zero, List.set_cons_succ])
        iterate 2 (refine rv_det (by kernel_rfl) rfl (by intro w hG hH; obtain ⟨n, rfl⟩ := hG; go_simp; first | done | with_reducible rfl) ?_; simp only [Act.put, List.setIfInBounds_toArray, List.set_cons_zero, List.set_cons_succ])
        iterate 7 (refine rv_skip (by kernel_rfl) ?_; simp only [Act.put, List.setIfInBounds_toArray, List.set_cons_zero, List.set_cons_succ])
        iterate 2 (refine rv_det (by kernel_rfl) rfl (by intro w hG hH; obtain ⟨n, rfl⟩ := hG; go_simp; first | done | with_reducible rfl) ?_; simp only [Act.put, List.setIfInBounds_toArray, List.set_cons_zero, List.set_cons_succ])
        iterate 5 (refine rv_skip (by kernel_rfl) ?_; simp only [Act.put, List.setIfInBounds_toArray, List.set_cons_zero, List.set_cons_succ])
        refine rv_det (by kernel_rfl) rfl (by intro w hG hH; obtain ⟨n, rfl⟩ := hG; go_simp; first | done | with_reducible rfl) ?_
        simp only [Act.put, List.setIfInBounds_toArray, List.set_cons_zero, List.set_cons_succ]
        refine rv_nil (fun w hG hH => ?_)
        obtain ⟨n, rfl⟩ := hG
        clear hH
        go_wp2_with fail
        go_ret2
        exact ⟨ret_eq (by rw [HE.out]; rfl), K2.out.drewN _⟩
      obtain ⟨x, rfl⟩ := List.length_eq_one_iff.1 hl
      obtain ⟨b, off, rfl, hx⟩ := ht 0 (by simp)
      simp only [List.getD_cons_zero, List.length_singleton, Nat.zero_mul, Nat.add_zero] at hx hc ⊢
      have HRX := Lib.hid (HR.out.2.2.2 x rfl rfl (by omega))
      obtain ⟨xk, xa, xn, xs⟩ := x
      have y0 := hx.k
      have y1 := hx.at_
      have y2 := hx.n
      have y3 := hx.s
      simp only at y0 y1 y2 y3 HRX
      clear hx ht hl hat HR
      by_cases hk : xk = k
      case neg =>
        have t4 : ((xk : Int) == (k : Int)) = false := by simp; omega
        have t4' : ((xk : Int) != (k : Int)) = true := by simp; omega
        have HE : Hid (r = false) := Lib.hid (HRX.out.1 hk)
        clear hk
        go_wp2_with fail
        refine wp_region_rv 46 GQ (kindV []) (by kernel_rfl) (by kernel_rfl) GQ.trans GQ.refl (GQ.start _) (kindV_mono _) ?_
        simp only [List.take_succ_cons, List.take_zero, List.drop_succ_cons, List.drop_zero]
        iterate 22 (refine rv_det (by kernel_rfl) rfl (by intro w hG hH; obtain ⟨n, rfl⟩ := hG; go_simp; first | done | with_reducible rfl) ?_; simp only [Act.put, List.setIfInBounds_toArray, List.set_cons_zero, List.set_cons_succ])
        iterate 7 (refine rv_skip (by kernel_rfl) ?_; simp only [Act.put, List.setIfInBounds_toArray, List.set_cons_zero, List.set_cons_succ])
        iterate 2 (refine rv_det (by kernel_rfl) rfl (by intro w hG hH; obtain ⟨n, rfl⟩ := hG; go_simp; first | done | with_reducible rfl) ?_; simp only [Act.put, List.setIfInBounds_toArray, List.set_cons_zero, List.set_cons_succ])
        iterate 7 (refine rv_skip (by kernel_rfl) ?_; simp only [Act.put, List.setIfInBounds_toArray, List.set_cons_zero, List.set_cons_succ])
        iterate 2 (refine rv_det (by kernel_rfl) rfl (by intro w hG hH; obtain ⟨n, rfl⟩ := hG; go_simp; first | done | with_reducible rfl) ?_; simp only [Act.put, List.setIfInBounds_toArray, List.set_cons_zero, List.set_cons_succ])
        iterate 5 (refine rv_skip (by kernel_rfl) ?_; simp only [Act.put, List.setIfInBounds_toArray, List.set_cons_zero, List.set_cons_succ])
        refine rv_det (by kernel_rfl) rfl (by intro w hG hH; obtain ⟨n, rfl⟩ := hG; go_simp; first | done | with_reducible rfl) ?_
        simp only [Act.put, List.setIfInBounds_toArray, List.set_cons_zero, List.set_cons_succ]
        refine rv_nil (fun w hG hH => ?_)
        obtain ⟨n, rfl⟩ := hG
        clear hH
        go_wp2_with fail
        go_ret2
        exact ⟨ret_eq (by rw [HE.out]; rfl), K2.out.drewN _⟩
      subst hk
      by_cases hs : s = xs
      case neg =>
        have t5 : (xs.toList == s.toList) = false := by rw [tl_beq]; exact decide_eq_false (fun e => hs e.symm)
        have HE : Hid (r = false) := Lib.hid (HRX.out.2.1 (fun e => hs e.symm))
        clear hs
        go_wp2_with fail
        refine wp_region_rv 46 GQ (kindV []) (by kernel_rfl) (by kernel_rfl) GQ.trans GQ.refl (GQ.start _) (kindV_mono _) ?_
        simp only [List.take_succ_cons, List.take_zero, List.drop_succ_cons, List.drop_zero]
        iterate 31 (refine rv_det (by kernel_rfl) rfl (by intro w hG hH; obtain ⟨n, rfl⟩ := hG; go_simp; first | done | with_reducible rfl) ?_; simp only [Act.put, List.setIfInBounds_toArray, List.set_cons_zero, List.set_cons_succ])
        iterate 7 (refine rv_skip (by kernel_rfl) ?_; simp only [Act.put, List.setIfInBounds_toArray, List.set_cons_zero, List.set_cons_succ])
        iterate 2 (refine rv_det (by kernel_rfl) rfl (by intro w hG hH; obtain ⟨n, rfl⟩ := hG; go_simp; first | done | with_reducible rfl) ?_; simp only [Act.put, List.setIfInBounds_toArray, List.set_cons_zero, List.set_cons_succ])
        iterate 5 (refine rv_skip (by kernel_rfl) ?_; simp only [Act.put, List.setIfInBounds_toArray, List.set_cons_zero, List.set_cons_succ])
        refine rv_det (by kernel_rfl) rfl (by intro w hG hH; obtain ⟨n, rfl⟩ := hG; go_simp; first | done | with_reducible rfl) ?_
        simp only [Act.put, List.setIfInBounds_toArray, List.set_cons_zero, List.set_cons_succ]
        refine rv_nil (fun w hG hH => ?_)
        obtain ⟨n, rfl⟩ := hG
        clear hH
        go_wp2_with fail
        go_ret2
        exact ⟨ret_eq (by rw [HE.out]; rfl), K2.out.drewN _⟩
      subst hs
      by_cases hn : xn = n
      case neg =>
        have t6 : (xn == n) = false := by simpa using hn
        have t6' : (xn != n) = true := by simp [hn]
        have HE : Hid (r = false) := Lib.hid (HRX.out.2.2.1 hn)
        clear hn
        go_wp2_with fail
        refine wp_region_rv 46 GQ (kindV []) (by kernel_rfl) (by kernel_rfl) GQ.trans GQ.refl (GQ.start _) (kindV_mono _) ?_
        simp only [List.take_succ_cons, List.take_zero, List.drop_succ_cons, List.drop_zero]
        iterate 40 (refine rv_det (by kernel_rfl) rfl (by intro w hG hH; obtain ⟨n, rfl⟩ := hG; go_simp; first | done | with_reducible rfl) ?_; simp only [Act.put, List.setIfInBounds_toArray, List.set_cons_zero, List.set_cons_succ])
        iterate 5 (refine rv_skip (by kernel_rfl) ?_; simp only [Act.put, List.setIfInBounds_toArray, List.set_cons_zero, List.set_cons_succ])
        refine rv_det (by kernel_rfl) rfl (by intro w hG hH; obtain ⟨n, rfl⟩ := hG; go_simp; first | done | with_reducible rfl) ?_
        simp only [Act.put, List.setIfInBounds_toArray, List.set_cons_zero, List.set_cons_succ]
        refine rv_nil (fun w hG hH => ?_)
        obtain ⟨n, rfl⟩ := hG
        clear hH
        go_wp2_with fail
        go_ret2
        exact ⟨ret_eq (by rw [HE.out]; rfl), K2.out.drewN _⟩
      subst hn
      by_cases ha : xa = 0
      case neg =>
        have t7 : (xa == 0) = false := by simpa using ha
        have t7' : (xa != 0) = true := by simp [ha]
        have HE : Hid (r = false) := Lib.hid (HRX.out.2.2.2.1 ha)
        clear ha
        go_wp2_with fail
        refine wp_region_rv 46 GQ (kindV []) (by kernel_rfl) (by kernel_rfl) GQ.trans GQ.refl (GQ.start _) (kindV_mono _) ?_
        simp only [List.take_succ_cons, List.take_zero, List.drop_succ_cons, List.drop_zero]
        iterate 46 (refine rv_det (by kernel_rfl) rfl (by intro w hG hH; obtain ⟨n, rfl⟩ := hG; go_simp; first | done | with_reducible rfl) ?_; simp only [Act.put, List.setIfInBounds_toArray, List.set_cons_zero, List.set_cons_succ])
        refine rv_nil (fun w hG hH => ?_)
        obtain ⟨n, rfl⟩ := hG
        clear hH
        go_wp2_with fail
        go_ret2
        exact ⟨ret_eq (by rw [HE.out]; rfl), K2.out.drewN _⟩
      subst ha
      have HRR := Lib.hid (HRX.out.2.2.2.2 rfl rfl rfl rfl)
      have RE3 := Lib.hid (RE.out _ rfl rfl rfl)
      clear RE
      go_wp2_with fail
      refine wp_region_rv 46 GQ (kindV []) (by kernel_rfl) (by kernel_rfl) GQ.trans GQ.refl (GQ.start _) (kindV_mono _) ?_
      simp only [List.take_succ_cons, List.take_zero, List.drop_succ_cons, List.drop_zero]
      iterate 46 (refine rv_det (by kernel_rfl) rfl (by intro w hG hH; obtain ⟨n, rfl⟩ := hG; go_simp; first | done | with_reducible rfl) ?_; simp only [Act.put, List.setIfInBounds_toArray, List.set_cons_zero, List.set_cons_succ])
      refine rv_nil (fun w hG hH => ?_)
      obtain ⟨n, rfl⟩ := hG
      clear hH
      have KN := Lib.hid (K2.out.drewN n)
      clear b0 b1 b2 b3 y0 y1 y2 y3
      go_wp2_with fail
      refine (RE3.out _).mono ?_
      rintro e w3 ⟨rfl, k3⟩
      have K3 := Lib.hid (KN.out.trans k3)
      clear k3
      by_cases hz : Z = u.size
      · have t8 : ((Z : Int) != (u.size : Int)) = false := by simp; omega
        have t8' : ((Z : Int) == (u.size : Int)) = true := by simp; omega
        have HE : Hid (r = true) := Lib.hid (HRR.out.2 hz)
        clear hz
        go_wp2_with fail
        go_ret2
        exact ⟨ret_eq (by rw [HE.out]; rfl), K3.out⟩
      · have t8 : ((Z : Int) != (u.size : Int)) = true := by simp; omega
        have t8' : ((Z : Int) == (u.size : Int)) = false := by simp; omega
        have HE : Hid (r = false) := Lib.hid (HRR.out.1 hz)
        clear hz
        go_wp2_with fail
        go_ret2
        exact ⟨ret_eq (by rw [HE.out]; rfl), K3.out⟩
    · have d2 : ((k : Int) == 5) = false := by simp; omega
      rw [if_neg h5] at hu2
      subst hu2
      clear h4 h5
      go_enter Tryz.func7, Tryz.ntmps7
      go_wp2_with fail
      have KX := H0
      refine (RL.out _).mono ?_
      rintro e w2 ⟨a, c, rfl, hc, ht, k2⟩
      have hb := k2.heap (fun x => x) KX.out.2
      have b0 : w2.cell? ⟨w0.heap.size, 0, none⟩ = some (.int .u8 (k : Nat)) := blk_cell hb 0
      have b1 : w2.cell? ⟨w0.heap.size, 1, none⟩ = some (.int .i64 at_) := blk_cell hb 1
      have b2 : w2.cell? ⟨w0.heap.size, 2, none⟩ = some (.int .i64 n) := blk_cell hb 2
      have b3 : w2.cell? ⟨w0.heap.size, 3, none⟩ = some (.string u) := blk_cell hb 3
      have K2 := Lib.hid (KX.out.1.trans k2)
      clear k2 hb RL
      (try clear c0 c1 c2 c3)
      by_cases hat : at_ < 0
      · have t1 : decide (at_ < 0) = true := decide_eq_true hat
        have HE : Hid (r = false) := Lib.hid (HR.out.1 (by omega))
        clear hat ht hc
        go_wp2_with fail
        refine wp_region_rv 46 GQ (kindV []) (by kernel_rfl) (by kernel_rfl) GQ.trans GQ.refl (GQ.start _) (kindV_mono _) ?_
        simp only [List.take_succ_cons, List.take_zero, List.drop_succ_cons, List.drop_zero]
        iterate 4 (refine rv_det (by kernel_rfl) rfl (by intro w hG hH; obtain ⟨n, rfl⟩ := hG; go_simp; first | done | with_reducible rfl) ?_; simp only [Act.put, List.setIfInBounds_toArray, List.set_cons_zero, List.set_cons_succ])
        iterate 2 (refine rv_skip (by kernel_rfl) ?_; simp only [Act.put, List.setIfInBounds_toArray, List.set_cons_zero, List.set_cons_succ])
        iterate 2 (refine rv_det (by kernel_rfl) rfl (by intro w hG hH; obtain ⟨n, rfl⟩ := hG; go_simp; first | done | with_reducible rfl) ?_; simp only [Act.put, List.setIfInBounds_toArray, List.set_cons_zero, List.set_cons_succ])
        iterate 3 (refine rv_skip (by kernel_rfl) ?_; simp only [Act.put, List.setIfInBounds_toArray, List.set_cons_zero, List.set_cons_succ])
        iterate 2 (refine rv_det (by kernel_rfl) rfl (by intro w hG hH; obtain ⟨n, rfl⟩ := hG; go_simp; first | done | with_reducible rfl) ?_; simp only [Act.put, List.setIfInBounds_toArray, List.set_cons_zero, List.set_cons_succ])
        iterate 7 (refine rv_skip (by kernel_rfl) ?_; simp only [Act.put, List.setIfInBounds_toArray, List.set_cons_zero, List.set_cons_succ])
        iterate 2 (refine rv_det (by kernel_rfl) rfl (by intro w hG hH; obtain ⟨n, rfl⟩ := hG; go_simp; first | done | with_reducible rfl) ?_; simp only [Act.put, List.setIfInBounds_toArray, List.set_cons_zero, List.set_cons_succ])
        iterate 7 (refine rv_skip (by kernel_rfl) ?_; simp only [Act.put, List.setIfInBounds_toArray, List.set_cons_zero, List.set_cons_succ])
        iterate 2 (refine rv_det (by kernel_rfl) rfl (by intro w hG hH; obtain ⟨n, rfl⟩ := hG; go_simp; first | done | with_reducible rfl) ?_; simp only [Act.put, List.setIfInBounds_toArray, List.set_cons_zero, List.set_cons_succ])
        iterate 7 (refine rv_skip (by kernel_rfl) ?_; simp only [Act.put, List.setIfInBounds_toArray, List.set_cons_zero, List.set_cons_succ])
        iterate 2 (refine rv_det (by kernel_rfl) rfl (by intro w hG hH; obtain ⟨n, rfl⟩ := hG; go_simp; first | done | with_reducible rfl) ?_; simp only [Act.put, List.setIfInBounds_toArray, List.set_cons_zero, List.set_cons_succ])
        iterate 5 (refine rv_skip (by kernel_rfl) ?_; simp only [Act.put, List.setIfInBounds_toArray, List.set_cons_zero, List.set_cons_succ])
        refine rv_det (by kernel_rfl) rfl (by intro w hG hH; obtain ⟨n, rfl⟩ := hG; go_simp; first | done | with_reducible rfl) ?_
        simp only [Act.put, List.setIfInBounds_toArray, List.set_cons_zero, List.set_cons_succ]
        refine rv_nil (fun w hG hH => ?_)
        obtain ⟨n, rfl⟩ := hG
        clear hH
        go_wp2_with fail
        go_ret2
        exact ⟨ret_eq (by rw [HE.out]; rfl), K2.out.drewN _⟩
      have t1 : decide (at_ < 0) = false := decide_eq_false hat
      by_cases he : E = 0
      case neg =>
        have t2 : ((E : Int) != 0) = true := by simp; omega
        have t2' : ((E : Int) == 0) = false := by simp; omega
        have HE : Hid (r = false) := Lib.hid (HR.out.2.1 he)
        clear hat ht hc he
        go_wp2_with fail
        refine wp_region_rv 46 GQ (kindV []) (by kernel_rfl) (by kernel_rfl) GQ.trans GQ.refl (GQ.start _) (kindV_mono _) ?_
        simp only [List.take_succ_cons, List.take_zero, List.drop_succ_cons, List.drop_zero]
        iterate 8 (refine rv_det (by kernel_rfl) rfl (by intro w hG hH; obtain ⟨n, rfl⟩ := hG; go_simp; first | done | with_reducible rfl) ?_; simp only [Act.put, List.setIfInBounds_toArray, List.set_cons_zero, List.set_cons_succ])
        iterate 3 (refine rv_skip (by kernel_rfl) ?_; simp only [Act.put, List.setIfInBounds_toArray, List.set_cons_zero, List.set_cons_succ])
        iterate 2 (refine rv_det (by kernel_rfl) rfl (by intro w hG hH; obtain ⟨n, rfl⟩ := hG; go_simp; first | done | with_reducible rfl) ?_; simp only [Act.put, List.setIfInBounds_toArray, List.set_cons_zero, List.set_cons_succ])
        iterate 7 (refine rv_skip (by kernel_rfl) ?_; simp only [Act.put, List.setIfInBounds_toArray, List.set_cons_zero, List.set_cons_succ])
        iterate 2 (refine rv_det (by kernel_rfl) rfl (by intro w hG hH; obtain ⟨n, rfl⟩ := hG; go_simp; first | done | with_reducible rfl) ?_; simp only [Act.put, List.setIfInBounds_toArray, List.set_cons_zero, List.set_cons_succ])
        iterate 7 (refine rv_skip (by kernel_rfl) ?_; simp only [Act.put, List.setIfInBounds_toArray, List.set_cons_zero, List.set_cons_succ])
        iterate 2 (refine rv_det (by kernel_rfl) rfl (by intro w hG hH; obtain ⟨n, rfl⟩ := hG; go_simp; first | done | with_reducible rfl) ?_; simp only [Act.put, List.setIfInBounds_toArray, List.set_cons_zero, List.set_cons_succ])
        iterate 7 (refine rv_skip (by kernel_rfl) ?_; simp only [Act.put, List.setIfInBounds_toArray, List.set_cons_zero, List.set_cons_succ])
        iterate 2 (refine rv_det (by kernel_rfl) rfl (by intro w hG hH; obtain ⟨n, rfl⟩ := hG; go_simp; first | done | with_reducible rfl) ?_; simp only [Act.put, List.setIfInBounds_toArray, List.set_cons_zero, List.set_cons_succ])
        iterate 5 (refine rv_skip (by kernel_rfl) ?_; simp only [Act.put, List.setIfInBounds_toArray, List.set_cons_zero, List.set_cons_succ])
        refine rv_det (by kernel_rfl) rfl (by intro w hG hH; obtain ⟨n, rfl⟩ := hG; go_simp; first | done | with_reducible rfl) ?_
        simp only [Act.put, List.setIfInBounds_toArray, List.set_cons_zero, List.set_cons_succ]
        refine rv_nil (fun w hG hH => ?_)
        obtain ⟨n, rfl⟩ := hG
        clear hH
        go_wp2_with fail
        go_ret2
        exact ⟨ret_eq (by rw [HE.out]; rfl), K2.out.drewN _⟩
      subst he
      by_cases hl : l.length = 1
      case neg =>
        have HE : Hid (r = false) := Lib.hid (HR.out.2.2.1 hl)
        have t3 : ((l.length : Int) != 1) = true := by simp; omega
        have t3' : ((l.length : Int) == 1) = false := by simp; omega
        clear ht hc
        generalize l.length = N at t3 t3' hl ⊢
        clear hl hat
        go_wp2_with fail
        refine wp_region_rv 46 GQ (kindV []) (by kernel_rfl) (by kernel_rfl) GQ.trans GQ.refl (GQ.start _) (kindV_mono _) ?_
        simp only [List.take_succ_cons, List.take_zero, List.drop_succ_cons, List.drop_zero]
        iterate 13 (refine rv_det (by kernel_rfl) rfl (by intro w hG hH; obtain ⟨n, rfl⟩ := hG; go_simp; first | done | with_reducible rfl) ?_; simp only [Act.put, List.setIfInBounds_toArray, List.set_cons_zero, List.set_cons_succ])
        iterate 7 (refine rv_skip (by kernel_rfl) ?_; simp only [Act.put, List.setIfInBounds_toArray, List.set_cons_zero, List.set_cons_succ])
        iterate 2 (refine rv_det (by kernel_rfl) rfl (by intro w hG hH; obtain ⟨n, rfl⟩ := hG; go_simp; first | done | with_reducible rfl) ?_; simp only [Act.put, List.setIfInBounds_toArray, List.set_cons_zero, List.set_cons_succ])
        iterate 7 (refine rv_skip (by kernel_rfl) ?_; simp only [Act.put, List.setIfInBounds_toArray, List.set_cons_zero, List.set_cons_succ])
        iterate 2 (refine rv_det (by kernel_rfl) rfl (by intro w hG hH; obtain ⟨n, rfl⟩ := hG; go_simp; first | done | with_reducible rfl) ?_; simp only [Act.put, List.setIfInBounds_toArray, List.set_cons_zero, List.set_cons_succ])
        iterate 7 (refine rv_skip (by kernel_rfl) ?_; simp only [Act.put, List.setIfInBounds_toArray, List.set_cons_zero, List.set_cons_succ])
        iterate 2 (refine rv_det (by kernel_rfl) rfl (by intro w hG hH; obtain ⟨n, rfl⟩ := hG; go_simp; first | done | with_reducible rfl) ?_; simp only [Act.put, List.setIfInBounds_toArray, List.set_cons_zero, List.set_cons_succ])
        iterate 5 (refine rv_skip (by kernel_rfl) ?_; simp only [Act.put, List.setIfInBounds_toArray, List.set_cons_zero, List.set_cons_succ])
        refine rv_det (by kernel_rfl) rfl (by intro w hG hH; obtain ⟨n, rfl⟩ := hG; go_simp; first | done | with_reducible rfl) ?_
        simp only [Act.put, List.setIfInBounds_toArray, List.set_cons_zero, List.set_cons_succ]
        refine rv_nil (fun w hG hH => ?_)
        obtain ⟨n, rfl⟩ := hG
        clear hH
        go_wp2_with fail
        go_ret2
        exact ⟨ret_eq (by rw [HE.out]; rfl), K2.out.drewN _⟩
      obtain ⟨x, rfl⟩ := List.length_eq_one_iff.1 hl
      obtain ⟨b, off, rfl, hx⟩ := ht 0 (by simp)
      simp only [List.getD_cons_zero, List.length_singleton, Nat.zero_mul, Nat.add_zero] at hx hc ⊢
      have HRX := Lib.hid (HR.out.2.2.2 x rfl rfl (by omega))
      obtain ⟨xk, xa, xn, xs⟩ := x
      have y0 := hx.k
      have y1 := hx.at_
      have y2 := hx.n
      have y3 := hx.s
      simp only at y0 y1 y2 y3 HRX
      clear hx ht hl hat HR
      by_cases hk : xk = k
      case neg =>
        have t4 : ((xk : Int) == (k : Int)) = false := by simp; omega
        have t4' : ((xk : Int) != (k : Int)) = true := by simp; omega
        have HE : Hid (r = false) := Lib.hid (HRX.out.1 hk)
        clear hk
        go_wp2_with fail
        refine wp_region_rv 46 GQ (kindV []) (by kernel_rfl) (by kernel_rfl) GQ.trans GQ.refl (GQ.start _) (kindV_mono _) ?_
        simp only [List.take_succ_cons, List.take_zero, List.drop_succ_cons, List.drop_zero]
        iterate 22 (refine rv_det (by kernel_rfl) rfl (by intro w hG hH; obtain ⟨n, rfl⟩ := hG; go_simp; first | done | with_reducible rfl) ?_; simp only [Act.put, List.setIfInBounds_toArray, List.set_cons_zero, List.set_cons_succ])
        iterate 7 (refine rv_skip (by kernel_rfl) ?_; simp only [Act.put, List.setIfInBounds_toArray, List.set_cons_zero, List.set_cons_succ])
        iterate 2 (refine rv_det (by kernel_rfl) rfl (by intro w hG hH; obtain ⟨n, rfl⟩ := hG; go_simp; first | done | with_reducible rfl) ?_; simp only [Act.put, List.setIfInBounds_toArray, List.set_cons_zero, List.set_cons_succ])
        iterate 7 (refine rv_skip (by kernel_rfl) ?_; simp only [Act.put, List.setIfInBounds_toArray, List.set_cons_zero, List.set_cons_succ])
        iterate 2 (refine rv_det (by kernel_rfl) rfl (by intro w hG hH; obtain ⟨n, rfl⟩ := hG; go_simp; first | done | with_reducible rfl) ?_; simp only [Act.put, List.setIfInBounds_toArray, List.set_cons_zero, List.set_cons_succ])
        iterate 5 (refine rv_skip (by kernel_rfl) ?_; simp only [Act.put, List.setIfInBounds_toArray, List.set_cons_zero, List.set_cons_succ])
        refine rv_det (by kernel_rfl) rfl (by intro w hG hH; obtain ⟨n, rfl⟩ := hG; go_simp; first | done | with_reducible rfl) ?_
        simp only [Act.put, List.setIfInBounds_toArray, List.set_cons_zero, List.set_cons_succ]
        refine rv_nil (fun w hG hH => ?_)
        obtain ⟨n, rfl⟩ := hG
        clear hH
        go_wp2_with fail
        go_ret2
        exact ⟨ret_eq (by rw [HE.out]; rfl), K2.out.drewN _⟩
      subst hk
      by_cases hs : u = xs
      case neg =>
        have t5 : (xs.toList == u.toList) = false := by rw [tl_beq]; exact decide_eq_false (fun e => hs e.symm)
        have HE : Hid (r = false) := Lib.hid (HRX.out.2.1 (fun e => hs e.symm))
        clear hs
        go_wp2_with fail
        refine wp_region_rv 46 GQ (kindV []) (by kernel_rfl) (by kernel_rfl) GQ.trans GQ.refl (GQ.start _) (kindV_mono _) ?_
        simp only [List.take_succ_cons, List.take_zero, List.drop_succ_cons, List.drop_zero]
        iterate 31 (refine rv_det (by kernel_rfl) rfl (by intro w hG hH; obtain ⟨n, rfl⟩ := hG; go_simp; first | done | with_reducible rfl) ?_; simp only [Act.put, List.setIfInBounds_toArray, List.set_cons_zero, List.set_cons_succ])
        iterate 7 (refine rv_skip (by kernel_rfl) ?_; simp only [Act.put, List.setIfInBounds_toArray, List.set_cons_zero, List.set_cons_succ])
        iterate 2 (refine rv_det (by kernel_rfl) rfl (by intro w hG hH; obtain ⟨n, rfl⟩ := hG; go_simp; first | done | with_reducible rfl) ?_; simp only [Act.put, List.setIfInBounds_toArray, List.set_cons_zero, List.set_cons_succ])
        iterate 5 (refine rv_skip (by kernel_rfl) ?_; simp only [Act.put, List.setIfInBounds_toArray, List.set_cons_zero, List.set_cons_succ])
        refine rv_det (by kernel_rfl) rfl (by intro w hG hH; obtain ⟨n, rfl⟩ := hG; go_simp; first | done | with_reducible rfl) ?_
        simp only [Act.put, List.setIfInBounds_toArray, List.set_cons_zero, List.set_cons_succ]
        refine rv_nil (fun w hG hH => ?_)
        obtain ⟨n, rfl⟩ := hG
        clear hH
        go_wp2_with fail
        go_ret2
        exact ⟨ret_eq (by rw [HE.out]; rfl), K2.out.drewN _⟩
      subst hs
      by_cases hn : xn = n
      case neg =>
        have t6 : (xn == n) = false := by simpa using hn
        have t6' : (xn != n) = true := by simp [hn]
        have HE : Hid (r = false) := Lib.hid (HRX.out.2.2.1 hn)
        clear hn
        go_wp2_with fail
        refine wp_region_rv 46 GQ (kindV []) (by kernel_rfl) (by kernel_rfl) GQ.trans GQ.refl (GQ.start _) (kindV_mono _) ?_
        simp only [List.take_succ_cons, List.take_zero, List.drop_succ_cons, List.drop_zero]
        iterate 40 (refine rv_det (by kernel_rfl) rfl (by intro w hG hH; obtain ⟨n, rfl⟩ := hG; go_simp; first | done | with_reducible rfl) ?_; simp only [Act.put, List.setIfInBounds_toArray, List.set_cons_zero, List.set_cons_succ])
        iterate 5 (refine rv_skip (by kernel_rfl) ?_; simp only [Act.put, List.setIfInBounds_toArray, List.set_cons_zero, List.set_cons_succ])
        refine rv_det (by kernel_rfl) rfl (by intro w hG hH; obtain ⟨n, rfl⟩ := hG; go_simp; first | done | with_reducible rfl) ?_
        simp only [Act.put, List.setIfInBounds_toArray, List.set_cons_zero, List.set_cons_succ]
        refine rv_nil (fun w hG hH => ?_)
        obtain ⟨n, rfl⟩ := hG
        clear hH
        go_wp2_with fail
        go_ret2
        exact ⟨ret_eq (by rw [HE.out]; rfl), K2.out.drewN _⟩
      subst hn
      by_cases ha : xa = 0
      case neg =>
        have t7 : (xa == 0) = false := by simpa using ha
        have t7' : (xa != 0) = true := by simp [ha]
        have HE : Hid (r = false) := Lib.hid (HRX.out.2.2.2.1 ha)
        clear ha
        go_wp2_with fail
        refine wp_region_rv 46 GQ (kindV []) (by kernel_rfl) (by kernel_rfl) GQ.trans GQ.refl (GQ.start _) (kindV_mono _) ?_
        simp only [List.take_succ_cons, List.take_zero, List.drop_succ_cons, List.drop_zero]
        iterate 46 (refine rv_det (by kernel_rfl) rfl (by intro w hG hH; obtain ⟨n, rfl⟩ := hG; go_simp; first | done | with_reducible rfl) ?_; simp only [Act.put, List.setIfInBounds_toArray, List.set_cons_zero, List.set_cons_succ])
        refine rv_nil (fun w hG hH => ?_)
        obtain ⟨n, rfl⟩ := hG
        clear hH
        go_wp2_with fail
        go_ret2
        exact ⟨ret_eq (by rw [HE.out]; rfl), K2.out.drewN _⟩
      subst ha
      have HRR := Lib.hid (HRX.out.2.2.2.2 rfl rfl rfl rfl)
      have RE3 := Lib.hid (RE.out _ rfl rfl rfl)
      clear RE
      go_wp2_with fail
      refine wp_region_rv 46 GQ (kindV []) (by kernel_rfl) (by kernel_rfl) GQ.trans GQ.refl (GQ.start _) (kindV_mono _) ?_
      simp only [List.take_succ_cons, List.take_zero, List.drop_succ_cons, List.drop_zero]
      iterate 46 (refine rv_det (by kernel_rfl) rfl (by intro w hG hH; obtain ⟨n, rfl⟩ := hG; go_simp; first | done | with_reducible rfl) ?_; simp only [Act.put, List.setIfInBounds_toArray, List.set_cons_zero, List.set_cons_succ])
      refine rv_nil (fun w hG hH => ?_)
      obtain ⟨n, rfl⟩ := hG
      clear hH
      have KN := Lib.hid (K2.out.drewN n)
      clear b0 b1 b2 b3 y0 y1 y2 y3
      go_wp2_with fail
      refine (RE3.out _).mono ?_
      rintro e w3 ⟨rfl, k3⟩
      have K3 := Lib.hid (KN.out.trans k3)
      clear k3
      by_cases hz : Z = u.size
      · have t8 : ((Z : Int) != (u.size : Int)) = false := by simp; omega
        have t8' : ((Z : Int) == (u.size : Int)) = true := by simp; omega
        have HE : Hid (r = true) := Lib.hid (HRR.out.2 hz)
        clear hz
        go_wp2_with fail
        go_ret2
        exact ⟨ret_eq (by rw [HE.out]; rfl), K3.out⟩
      · have t8 : ((Z : Int) != (u.size : Int)) = true := by simp; omega
        have t8' : ((Z : Int) == (u.size : Int)) = false := by simp; omega
        have HE : Hid (r = false) := Lib.hid (HRR.out.1 hz)
        clear hz
        go_wp2_with fail
        go_ret2
        exact ⟨ret_eq (by rw [HE.out]; rfl), K3.out⟩
end Go.Proofs.YtcbifoimfhfccaaGreatDoor

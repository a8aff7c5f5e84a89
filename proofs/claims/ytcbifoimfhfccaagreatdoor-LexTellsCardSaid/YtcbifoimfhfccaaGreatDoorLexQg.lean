/- lex.join, Join, Tight. -/
import Derived.Test.YtcbifoimfhfccaaGreatDoorLexQf
namespace Go.Proofs.YtcbifoimfhfccaaGreatDoor
open Go.RowKit

def prevT (ts : List Tk) (k : Nat) : Option Tk := if k = 0 then none else some (ts.getD (k - 1) tk0)
theorem drop_getD {ts : List Tk} {k : Nat} (h : k < ts.length) : ts.drop k = ts.getD k tk0 :: ts.drop (k + 1) := by
  rw [List.drop_eq_getElem_cons h, List.getD_eq_getElem?_getD, List.getElem?_eq_getElem h]
  rfl
theorem prevT_succ (ts : List Tk) (k : Nat) : prevT ts (k + 1) = some (ts.getD k tk0) := by
  unfold prevT; rw [if_neg (Nat.succ_ne_zero k), Nat.add_sub_cancel]
theorem prevT_zero (ts : List Tk) : prevT ts 0 = none := rfl
theorem joinF_step {ap : Tk → Tk → Bool} {ts : List Tk} {k : Nat} {b : ByteArray} (h : k < ts.length) : joinF ap (ts.drop k) (prevT ts k) b = if 65536 < (sepF ap (prevT ts k) (ts.getD k tk0) b ++ textS (ts.getD k tk0)).size then (ByteArray.empty, 3) else joinF ap (ts.drop (k + 1)) (prevT ts (k + 1)) (sepF ap (prevT ts k) (ts.getD k tk0) b ++ textS (ts.getD k tk0)) := by
  rw [drop_getD h, prevT_succ]
  rfl
theorem joinF_end {ap : Tk → Tk → Bool} {ts : List Tk} {b : ByteArray} : joinF ap (ts.drop ts.length) (prevT ts ts.length) b = (b, 0) := by
  rw [List.drop_length]; rfl

set_option maxRecDepth 100000 in
set_option maxHeartbeats 16000000 in
theorem joinT_all (ts : List Tk) (hl : ts.length < 100000000000) (h64 : ∀ k, k < ts.length → Num64 (ts.getD k tk0)) (a : Option Addr) (c : Nat) (w : World) (hT : Tab w) (h1 : ToksAt w a ts) :
    Calls Tryz.prog 25 #[.slice a ts.length c, .func (.func 26) #[] #[]] w fun e w' => e = .returned (.tuple #[.string (joinS allAp ts).1, .int .i64 ((joinS allAp ts).2 : Nat)]) ∧ KB F0 w w' := by
  obtain ⟨w0, rfl⟩ : ∃ w0, w0 = w := ⟨_, rfl⟩
  obtain ⟨O, hO⟩ : ∃ O, O = joinS allAp ts := ⟨_, rfl⟩
  rw [← hO]
  unfold joinS at hO
  obtain ⟨N, hN⟩ : ∃ N, N = ts.length := ⟨_, rfl⟩
  have CF := Lib.hid (containsFunc_any ts hl h64 a c w0 hT h1)
  have TX := Lib.hid (fun (k : Nat) (hk : k < ts.length) (W : World) (hkb : KB F0 w0 W) => text_any (ts.getD k tk0) (h64 k hk) W (hT.kb hkb))
  have AC := Lib.hid (fun (hall : ts.all mayS = true) (m k : Nat) (hm : m < ts.length) (hk : k < ts.length) (W : World) (hkb : KB F0 w0 W) => join1_any (ts.getD m tk0) (ts.getD k tk0) W)
  rw [← hN] at hl CF TX AC ⊢
  have HTS := Lib.hid (And.intro hN h1)
  have HQ : Hid (ts.all mayS = false → O = (ByteArray.empty, 2)) := Lib.hid (fun h => by rw [hO, if_neg (by rw [h]; decide)])
  have HJ : Hid (ts.all mayS = true → O = joinF allAp (ts.drop 0) (prevT ts 0) ByteArray.empty) := Lib.hid (fun h => by rw [hO, if_pos h]; rfl)
  have HM : Hid (ts.all mayS = true → ∀ k, k < N → mayS (ts.getD k tk0) = true) := Lib.hid (fun h k hk => all_getD.1 h k (by rw [← hN]; exact hk))
  have HF : Hid (∀ k, k < N → ∀ b, joinF allAp (ts.drop k) (prevT ts k) b = if 65536 < (sepF allAp (prevT ts k) (ts.getD k tk0) b ++ textS (ts.getD k tk0)).size then (ByteArray.empty, 3) else joinF allAp (ts.drop (k + 1)) (prevT ts (k + 1)) (sepF allAp (prevT ts k) (ts.getD k tk0) b ++ textS (ts.getD k tk0))) := Lib.hid (fun k hk b => joinF_step (by rw [← hN]; exact hk))
  have HEnd : Hid (∀ b, joinF allAp (ts.drop N) (prevT ts N) b = (b, 0)) := Lib.hid (fun b => by rw [hN]; exact joinF_end)
  clear hO hN h64 hT h1
  generalize hq : ts.all mayS = q at CF AC HQ HJ HM
  clear hq
  go_enter Tryz.func25, Tryz.ntmps25
  go_wp2_with fail
  refine CF.out.mono ?_
  rintro e w1 ⟨rfl, hk1⟩
  have HK1 := Lib.hid hk1
  clear hk1 CF
  cases q
  case false =>
    have HE := Lib.hid (HQ.out rfl)
    clear HQ HJ HM AC TX
    go_wp2_with fail
    go_ret2
    exact ⟨ret_eq (by rw [HE.out]; rfl), HK1.out⟩
  case true =>
  have HJ1 := Lib.hid (HJ.out rfl)
  have HM1 := Lib.hid (HM.out rfl)
  have AC1 := Lib.hid (AC.out rfl)
  clear HQ HJ HM AC
  obtain ⟨X, hX⟩ : ∃ X, X = w1.heap.size := ⟨_, rfl⟩
  have hXge : w0.heap.size ≤ X := by rw [hX]; exact HK1.out.size
  have HS0 : Hid (BU (w1.alloc (.cells #[.pointer none, .slice none 0 0] 69)) w0.heap.size X ByteArray.empty ∧ KB F0 w0 (w1.alloc (.cells #[.pointer none, .slice none 0 0] 69))) := Lib.hid (by rw [hX]; exact ⟨bu_new w1 HK1.out.size, HK1.out.alloc _⟩)
  have HX := Lib.hid hX
  go_wp2_with fail
  rw [← hX]
  clear hX
  go_loopw [13] (fun kv wr => ∃ (k : Nat) (b : ByteArray), k ≤ N ∧ kv = .int .i64 k ∧ b.size ≤ 65536 ∧ Hid (O = joinF allAp (ts.drop k) (prevT ts k) b) ∧ Hid (BU wr w0.heap.size X b ∧ KB F0 w0 wr)) (fun kv _ => N - (intOf kv).toNat)
  case atStart => exact ⟨0, ByteArray.empty, by omega, rfl, by decide, HJ1, HS0⟩
  case round =>
    obtain ⟨k, b, hk, rfl, hbz, hO, hst⟩ := hrel
    by_cases hlt : k < N
    · obtain ⟨b1, o1, rfl, hx0⟩ := HTS.out.2 k (by rw [← HTS.out.1]; exact hlt)
      have hx := hx0.kbF hst.out.2
      have HO : Hid (O = if 65536 < (sepF allAp (prevT ts k) (ts.getD k tk0) b ++ textS (ts.getD k tk0)).size then (ByteArray.empty, 3) else joinF allAp (ts.drop (k + 1)) (prevT ts (k + 1)) (sepF allAp (prevT ts k) (ts.getD k tk0) b ++ textS (ts.getD k tk0))) := Lib.hid (by rw [hO.out]; exact HF.out k hlt b)
      have TT := Lib.hid (TX.out k hlt)
      have AT := Lib.hid (fun (m : Nat) (hm : m < N) => AC1.out m k hm hlt)
      have hus := may_size (HM1.out k hlt)
      have HMP : Hid (∀ m, k = m + 1 → prevT ts k = some (ts.getD m tk0)) := Lib.hid (fun m e => by rw [e, prevT_succ])
      generalize ts.getD k tk0 = t at hx HO TT AT hus
      generalize textS t = u at HO TT hus
      have SZ : Hid (b.size ≤ 65536 ∧ u.size ≤ 64) := Lib.hid ⟨hbz, hus.2⟩
      have c0 := hx.k
      have c1 := hx.at_
      have c2 := hx.n
      have c3 := hx.s
      clear hO hx0 hx hus hbz
      go_wp2_with fail
      obtain ⟨W3, hW3⟩ : ∃ W3, W3 = wr.alloc (.cells #[.int .u8 (t.k : Nat), .int .i64 t.at_, .int .i64 t.n, .string t.s] 27) := ⟨_, rfl⟩
      rw [← hW3]
      have hbox0 : W3.heap[wr.heap.size]? = some (.cells (tkC t) 27 (0, 0)) := by rw [hW3]; exact alloc_new _ _
      have hk3 : KB F0 wr W3 := by rw [hW3]; exact (KB.refl F0 wr).alloc _
      have HB3 : Hid (W3.heap[wr.heap.size]? = some (.cells (tkC t) 27 (0, 0)) ∧ BU W3 w0.heap.size X b ∧ KB F0 w0 W3) := Lib.hid ⟨hbox0, hst.out.1.kb hk3, hst.out.2.trans hk3⟩
      have HXY : Hid (X ≠ wr.heap.size) := Lib.hid (fun e => by
        have h5 := hst.out.1
        rcases h5 with h5 | h5
        · have := h5.lt; omega
        · have := h5.lt; omega)
      clear hW3 hbox0 c0 c1 c2 c3 hk3
      unfold tkC at TT AT
      rcases Nat.eq_zero_or_pos k with hk0 | hk0
      · subst hk0
        go_wp2_with fail
        refine wp_region_rv 12 GK (kindW []) (by kernel_rfl) (by kernel_rfl) (kb_trans _) (kb_refl _) (kb_start _ _) (kindW_mono _ (by intro p hp; cases hp)) ?_
        simp only [List.take_succ_cons, List.take_zero, List.drop_succ_cons, List.drop_zero]
        iterate 3 (refine rv_det (by kernel_rfl) rfl (by intro w hG hH; go_simp; first | done | with_reducible rfl) ?_; simp only [Act.put, List.setIfInBounds_toArray, List.set_cons_zero, List.set_cons_succ])
        iterate 8 (refine rv_skip (by kernel_rfl) ?_; simp only [Act.put, List.setIfInBounds_toArray, List.set_cons_zero, List.set_cons_succ])
        refine rv_det (by kernel_rfl) rfl (by intro w hG hH; go_simp; first | done | with_reducible rfl) ?_
        simp only [Act.put, List.setIfInBounds_toArray, List.set_cons_zero, List.set_cons_succ]
        refine rv_nil (fun w hG hH => ?_)
        have hbox := hG.heap (fun x => x) HB3.out.1
        have hbu := HB3.out.2.1.kb hG
        have hkw := HB3.out.2.2.trans hG
        clear hG hH
        have d0 : w.cell? ⟨wr.heap.size, 0, none⟩ = some (.int .u8 (t.k : Nat)) := blk_cell hbox 0
        have d1 : w.cell? ⟨wr.heap.size, 1, none⟩ = some (.int .i64 t.at_) := blk_cell hbox 1
        have d2 : w.cell? ⟨wr.heap.size, 2, none⟩ = some (.int .i64 t.n) := blk_cell hbox 2
        have d3 : w.cell? ⟨wr.heap.size, 3, none⟩ = some (.string t.s) := blk_cell hbox 3
        have HW := Lib.hid (And.intro hbu hkw)
        clear hbox hbu hkw
        go_wp2_with fail
        refine (TT.out _ HW.out.2).mono ?_
        rintro e w5 ⟨rfl, hk5⟩
        have hbu5 := HW.out.1.kb hk5
        have hk05 := HW.out.2.trans hk5
        have HW5 := Lib.hid (And.intro hbu5 hk05)
        clear hk5 hbu5 hk05 d0 d1 d2 d3
        go_wp2_with fail
        refine (ws_any w0.heap.size X b u w5 HW5.out.1 (by have := SZ.out; first | omega | (rw [ByteArray.size_append]; have z : (⟨#[32]⟩ : ByteArray).size = 1 := rfl; omega)) HW5.out.2.size).mono ?_
        rintro e w6 ⟨rfl, hb6, hbl6, -⟩
        have HW6 := Lib.hid (And.intro hb6 (kb_below HW5.out.2 hbl6))
        clear hb6 hbl6
        have HO2 : Hid (O = if 65536 < (b ++ u).size then (ByteArray.empty, 3) else joinF allAp (ts.drop (0 + 1)) (prevT ts (0 + 1)) (b ++ u)) := Lib.hid (by rw [HO.out]; rfl)
        have LN := Lib.hid (len_any w0.heap.size X (b ++ u) w6 HW6.out.1)
        generalize b ++ u = b2 at HW6 HO2 LN
        go_wp2_with fail
        refine LN.out.mono ?_
        rintro e w7 ⟨rfl, rfl⟩
        by_cases hbig : 65536 < b2.size
        · have d4 : decide ((65536 : Int) < (b2.size : Int)) = true := decide_eq_true (by omega)
          have HE : Hid (O = (ByteArray.empty, 3)) := Lib.hid (by rw [HO2.out, if_pos hbig])
          clear hbig
          go_wp2_with fail
          go_ret2
          exact ⟨ret_eq (by rw [HE.out]; rfl), HW6.out.2⟩
        · have d4 : decide ((65536 : Int) < (b2.size : Int)) = false := decide_eq_false (by omega)
          have HE : Hid (O = joinF allAp (ts.drop (0 + 1)) (prevT ts (0 + 1)) b2) := Lib.hid (by rw [HO2.out, if_neg hbig])
          have HZ := Lib.hid (Nat.le_of_not_lt hbig)
          clear hbig
          go_wp2_with fail
          go_roundw
          case rel => exact ⟨0 + 1, b2, by omega, by go_num, HZ.out, HE, Lib.hid HW6.out⟩
          case measure => simp [intOf]; omega
      · obtain ⟨m, hm⟩ : ∃ m, k = m + 1 := ⟨k - 1, by omega⟩
        have hmN : m < N := by omega
        have t1 : decide ((0 : Int) < (k : Int)) = true := decide_eq_true (by omega)
        have t2 : ((0 : Int) < (k : Int)) := by omega
        have hw1 : IntKind.i64.wrap ((k : Int) - 1) = (m : Int) := by rw [w64 (by omega) (by omega)]; omega
        have im : (m : Int) < (N : Int) := by omega
        have HP := Lib.hid (HMP.out m hm)
        have AM := Lib.hid (AT.out m hmN)
        obtain ⟨b9, o9, he9, hy0⟩ := HTS.out.2 m (by rw [← HTS.out.1]; exact hmN)
        simp only [Option.some.injEq, Addr.mk.injEq, and_true] at he9
        obtain ⟨rfl, rfl⟩ := he9
        have hy := hy0.kbF HB3.out.2.2
        generalize ts.getD m tk0 = p at hy AM HP
        have HSP : Hid (sepF allAp (some p) t b = if allAp p t = true then b ++ ⟨#[32]⟩ else b) := Lib.hid rfl
        generalize allAp p t = q at AM HSP
        have y0 := hy.k
        have y1 := hy.at_
        have y2 := hy.n
        have y3 := hy.s
        have x0 : W3.cell? ⟨wr.heap.size, 0, none⟩ = some (.int .u8 (t.k : Nat)) := blk_cell HB3.out.1 0
        have x1 : W3.cell? ⟨wr.heap.size, 1, none⟩ = some (.int .i64 t.at_) := blk_cell HB3.out.1 1
        have x2 : W3.cell? ⟨wr.heap.size, 2, none⟩ = some (.int .i64 t.n) := blk_cell HB3.out.1 2
        have x3 : W3.cell? ⟨wr.heap.size, 3, none⟩ = some (.string t.s) := blk_cell HB3.out.1 3
        have HMK := Lib.hid hm
        clear hy hy0 hm HMP
        go_wp2_with fail
        refine wp_region_rv 12 GK (kindW [(10, (fun v => v = .bool q), (fun _ _ => True))]) (by kernel_rfl) (by kernel_rfl) (kb_trans _) (kb_refl _) (kb_start _ _) (kindW_mono _ (by intro p hp; simp only [List.mem_cons, List.not_mem_nil, or_false] at hp; (subst hp; exact lasts_true))) ?_
        simp only [List.take_succ_cons, List.take_zero, List.drop_succ_cons, List.drop_zero]
        iterate 8 (refine rv_det (by kernel_rfl) rfl (by intro w hG hH; go_simp; first | done | with_reducible rfl) ?_; simp only [Act.put, List.setIfInBounds_toArray, List.set_cons_zero, List.set_cons_succ])
        refine rv_det (by kernel_rfl) rfl (by intro w hG hH; have hc0 := KB.cell hG (fun x => x) (y0); have hc1 := KB.cell hG (fun x => x) (y1); have hc2 := KB.cell hG (fun x => x) (y2); have hc3 := KB.cell hG (fun x => x) (y3); go_simp; first | done | with_reducible rfl) ?_
        simp only [Act.put, List.setIfInBounds_toArray, List.set_cons_zero, List.set_cons_succ]
        refine rv_det (by kernel_rfl) rfl (by intro w hG hH; have hc0 := KB.cell hG (fun x => x) (x0); have hc1 := KB.cell hG (fun x => x) (x1); have hc2 := KB.cell hG (fun x => x) (x2); have hc3 := KB.cell hG (fun x => x) (x3); go_simp; first | done | with_reducible rfl) ?_
        simp only [Act.put, List.setIfInBounds_toArray, List.set_cons_zero, List.set_cons_succ]
        refine rv_rel (by kernel_rfl) rfl ⟨_, rfl⟩ (by
          intro w hG hH
          refine opVal_call (by go_simp; first | done | exact ⟨⟨rfl, rfl⟩, rfl⟩) ?_
          refine (AM.out _ (HB3.out.2.2.trans hG)).mono ?_
          rintro e w' ⟨rfl, hq⟩
          exact ⟨_, rfl, rfl, by first | (obtain ⟨nq, rfl⟩ := hq; exact (KB.refl _ _).drewN _) | (subst hq; exact KB.refl _ _) | exact hq, trivial⟩) ?_
        rintro v rfl
        simp only [Act.put, List.setIfInBounds_toArray, List.set_cons_zero, List.set_cons_succ]
        refine rv_det (by kernel_rfl) rfl (by intro w hG hH; go_simp; first | done | with_reducible rfl) ?_
        simp only [Act.put, List.setIfInBounds_toArray, List.set_cons_zero, List.set_cons_succ]
        refine rv_nil (fun w hG hH => ?_)
        have hbox := hG.heap (fun x => x) HB3.out.1
        have hbu := HB3.out.2.1.kb hG
        have hkw := HB3.out.2.2.trans hG
        clear hG hH x0 x1 x2 x3 y0 y1 y2 y3
        cases q
        case false =>
          have HS2 : Hid (sepF allAp (prevT ts k) t b = b) := Lib.hid (by rw [HP.out, HSP.out]; rfl)
          have d0 : w.cell? ⟨wr.heap.size, 0, none⟩ = some (.int .u8 (t.k : Nat)) := blk_cell hbox 0
          have d1 : w.cell? ⟨wr.heap.size, 1, none⟩ = some (.int .i64 t.at_) := blk_cell hbox 1
          have d2 : w.cell? ⟨wr.heap.size, 2, none⟩ = some (.int .i64 t.n) := blk_cell hbox 2
          have d3 : w.cell? ⟨wr.heap.size, 3, none⟩ = some (.string t.s) := blk_cell hbox 3
          have HW := Lib.hid (And.intro hbu hkw)
          clear hbox hbu hkw
          go_wp2_with fail
          refine (TT.out _ HW.out.2).mono ?_
          rintro e w5 ⟨rfl, hk5⟩
          have hbu5 := HW.out.1.kb hk5
          have hk05 := HW.out.2.trans hk5
          have HW5 := Lib.hid (And.intro hbu5 hk05)
          clear hk5 hbu5 hk05 d0 d1 d2 d3
          go_wp2_with fail
          refine (ws_any w0.heap.size X b u w5 HW5.out.1 (by have := SZ.out; first | omega | (rw [ByteArray.size_append]; have z : (⟨#[32]⟩ : ByteArray).size = 1 := rfl; omega)) HW5.out.2.size).mono ?_
          rintro e w6 ⟨rfl, hb6, hbl6, -⟩
          have HW6 := Lib.hid (And.intro hb6 (kb_below HW5.out.2 hbl6))
          clear hb6 hbl6
          have HO2 : Hid (O = if 65536 < (b ++ u).size then (ByteArray.empty, 3) else joinF allAp (ts.drop (k + 1)) (prevT ts (k + 1)) (b ++ u)) := Lib.hid (by rw [HO.out]; rw [HS2.out])
          have LN := Lib.hid (len_any w0.heap.size X (b ++ u) w6 HW6.out.1)
          generalize b ++ u = b2 at HW6 HO2 LN
          go_wp2_with fail
          refine LN.out.mono ?_
          rintro e w7 ⟨rfl, rfl⟩
          by_cases hbig : 65536 < b2.size
          · have d4 : decide ((65536 : Int) < (b2.size : Int)) = true := decide_eq_true (by omega)
            have HE : Hid (O = (ByteArray.empty, 3)) := Lib.hid (by rw [HO2.out, if_pos hbig])
            clear hbig
            go_wp2_with fail
            go_ret2
            exact ⟨ret_eq (by rw [HE.out]; rfl), HW6.out.2⟩
          · have d4 : decide ((65536 : Int) < (b2.size : Int)) = false := decide_eq_false (by omega)
            have HE : Hid (O = joinF allAp (ts.drop (k + 1)) (prevT ts (k + 1)) b2) := Lib.hid (by rw [HO2.out, if_neg hbig])
            have HZ := Lib.hid (Nat.le_of_not_lt hbig)
            clear hbig
            go_wp2_with fail
            go_roundw
            case rel => exact ⟨k + 1, b2, by omega, by go_num, HZ.out, HE, Lib.hid HW6.out⟩
            case measure => simp [intOf]; omega
        case true =>
          have HS2 : Hid (sepF allAp (prevT ts k) t b = b ++ ⟨#[32]⟩) := Lib.hid (by rw [HP.out, HSP.out]; rfl)
          have HU := Lib.hid (And.intro hbox (And.intro hbu hkw))
          clear hbox hbu hkw
          go_wp2_with fail
          refine (wb_any w0.heap.size X b _ HU.out.2.1 (by have := SZ.out; omega) HU.out.2.2.size).mono ?_
          rintro e w4 ⟨rfl, hb4, hbl4, hok4⟩
          have hbox : w4.heap[wr.heap.size]? = some (.cells (tkC t) 27 (0, 0)) := hok4 _ _ HU.out.1 (fun e => HXY.out (Option.some.inj e).symm) (fun c fz e => by cases e)
          have hkw := kb_below HU.out.2.2 hbl4
          have hbu := hb4
          clear hb4 hbl4 hok4
          have d0 : w4.cell? ⟨wr.heap.size, 0, none⟩ = some (.int .u8 (t.k : Nat)) := blk_cell hbox 0
          have d1 : w4.cell? ⟨wr.heap.size, 1, none⟩ = some (.int .i64 t.at_) := blk_cell hbox 1
          have d2 : w4.cell? ⟨wr.heap.size, 2, none⟩ = some (.int .i64 t.n) := blk_cell hbox 2
          have d3 : w4.cell? ⟨wr.heap.size, 3, none⟩ = some (.string t.s) := blk_cell hbox 3
          have HW := Lib.hid (And.intro hbu hkw)
          clear hbox hbu hkw
          go_wp2_with fail
          refine (TT.out _ HW.out.2).mono ?_
          rintro e w5 ⟨rfl, hk5⟩
          have hbu5 := HW.out.1.kb hk5
          have hk05 := HW.out.2.trans hk5
          have HW5 := Lib.hid (And.intro hbu5 hk05)
          clear hk5 hbu5 hk05 d0 d1 d2 d3
          go_wp2_with fail
          refine (ws_any w0.heap.size X (b ++ ⟨#[32]⟩) u w5 HW5.out.1 (by have := SZ.out; first | omega | (rw [ByteArray.size_append]; have z : (⟨#[32]⟩ : ByteArray).size = 1 := rfl; omega)) HW5.out.2.size).mono ?_
          rintro e w6 ⟨rfl, hb6, hbl6, -⟩
          have HW6 := Lib.hid (And.intro hb6 (kb_below HW5.out.2 hbl6))
          clear hb6 hbl6
          have HO2 : Hid (O = if 65536 < ((b ++ ⟨#[32]⟩) ++ u).size then (ByteArray.empty, 3) else joinF allAp (ts.drop (k + 1)) (prevT ts (k + 1)) ((b ++ ⟨#[32]⟩) ++ u)) := Lib.hid (by rw [HO.out]; rw [HS2.out])
          have LN := Lib.hid (len_any w0.heap.size X ((b ++ ⟨#[32]⟩) ++ u) w6 HW6.out.1)
          generalize (b ++ ⟨#[32]⟩) ++ u = b2 at HW6 HO2 LN
          go_wp2_with fail
          refine LN.out.mono ?_
          rintro e w7 ⟨rfl, rfl⟩
          by_cases hbig : 65536 < b2.size
          · have d4 : decide ((65536 : Int) < (b2.size : Int)) = true := decide_eq_true (by omega)
            have HE : Hid (O = (ByteArray.empty, 3)) := Lib.hid (by rw [HO2.out, if_pos hbig])
            clear hbig
            go_wp2_with fail
            go_ret2
            exact ⟨ret_eq (by rw [HE.out]; rfl), HW6.out.2⟩
          · have d4 : decide ((65536 : Int) < (b2.size : Int)) = false := decide_eq_false (by omega)
            have HE : Hid (O = joinF allAp (ts.drop (k + 1)) (prevT ts (k + 1)) b2) := Lib.hid (by rw [HO2.out, if_neg hbig])
            have HZ := Lib.hid (Nat.le_of_not_lt hbig)
            clear hbig
            go_wp2_with fail
            go_roundw
            case rel => exact ⟨k + 1, b2, by omega, by go_num, HZ.out, HE, Lib.hid HW6.out⟩
            case measure => simp [intOf]; omega
    · obtain rfl : k = N := by omega
      have HE : Hid (O = (b, 0)) := Lib.hid (by rw [hO.out]; exact HEnd.out b)
      clear hO hbz
      go_wp2_with fail
      refine (str_any w0.heap.size X b wr hst.out.1 hst.out.2.size).mono ?_
      rintro e w8 ⟨rfl, hbl8⟩
      have HK8 := Lib.hid (kb_below hst.out.2 hbl8)
      clear hbl8
      go_wp2_with fail
      go_ret2
      exact ⟨ret_eq (by rw [HE.out]; rfl), HK8.out⟩

set_option maxRecDepth 100000 in
set_option maxHeartbeats 8000000 in
theorem join_any (ts : List Tk) (hl : ts.length < 100000000000) (h64 : ∀ k, k < ts.length → Num64 (ts.getD k tk0)) (a : Option Addr) (c : Nat) (w : World) (hT : Tab w) (h1 : ToksAt w a ts) :
    Calls Tryz.prog 10 #[.slice a ts.length c] w fun e w' => e = .returned (.tuple #[.string (joinS allAp ts).1, .int .i64 ((joinS allAp ts).2 : Nat)]) ∧ KB F0 w w' := by
  have IX := Lib.hid (joinT_all ts hl h64 a c w hT h1)
  generalize joinS allAp ts = O at IX ⊢
  generalize ts.length = N at IX ⊢
  clear hl h64 hT h1
  go_enter Tryz.func10, Tryz.ntmps10
  go_wp2_with fail
  refine IX.out.mono ?_
  rintro e w2 ⟨rfl, hk2⟩
  have HK2 := Lib.hid hk2
  clear hk2
  go_wp2_with fail
  go_ret2
  exact ⟨rfl, HK2.out⟩
end Go.Proofs.YtcbifoimfhfccaaGreatDoor
